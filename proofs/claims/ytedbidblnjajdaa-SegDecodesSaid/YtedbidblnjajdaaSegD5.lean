/- The law of seg.Decode: the code answers as the reference. No condition. -/
import Derived.Test.YtedbidblnjajdaaSegD4
namespace Go.Proofs.Ytedbidblnjajdaa
open Go.RowKit

theorem seg_Decode_res (b : List UInt8) (A : Option Addr) (c : Nat) (w : World) (hl : SlRep Rep.u8 w (· < w.heap.size) b A c) (hn : b.length ≤ 140737488351232) :
    Calls Try.prog 33 #[.slice A b.length c] w (SegRes (sg.dec b) w) := by
  by_cases h1 : b.length < 10
  · rw [show sg.dec b = .error 5 from if_pos h1]
    exact seg_Decode_short b A c w h1
  · by_cases h2 : sg.sumOf (sg.blank b) = sg.w16 b 8
    · exact seg_Decode_long b A c w hl hn (by omega) h2
    · rw [show sg.dec b = .error 6 by unfold sg.dec; rw [if_neg h1, if_pos h2]]
      exact seg_Decode_sum b A c w hl hn (by omega) h2
theorem ref_Decoded_res (b : List UInt8) (A : Option Addr) (c : Nat) (w : World) (hl : SlRep Rep.u8 w (· < w.heap.size) b A c) (hn : b.length ≤ 140737488351232) :
    Calls Try.prog 34 #[.slice A b.length c] w (SegRes (sg.dec b) w) := by
  by_cases h1 : b.length < 10
  · rw [show sg.dec b = .error 5 from if_pos h1]
    exact ref_Decoded_short b A c w h1
  · by_cases h2 : sg.sumOf (sg.blank b) = sg.w16 b 8
    · exact ref_Decoded_long b A c w hl hn (by omega) h2
    · rw [show sg.dec b = .error 6 by unfold sg.dec; rw [if_neg h1, if_pos h2]]
      exact ref_Decoded_sum b A c w hl hn (by omega) h2
set_option maxHeartbeats 2000000 in
theorem law_sameSegment (s : Segment) (A0 A1 A2 A3 : Option Addr) (c0 c1 c2 c3 : Nat) (w : World) (h0 : SlRep Rng.rep w (· < w.heap.size) s.sacks A0 c0) (h1 : SlRep Rep.u8 w (· < w.heap.size) s.data A1 c1) (h2 : SlRep Rng.rep w (· < w.heap.size) s.sacks A2 c2) (h3 : SlRep Rep.u8 w (· < w.heap.size) s.data A3 c3) :
    Calls Try.prog 35 #[s.val A0 c0 A1 c1, s.val A2 c2 A3 c3] w fun e w' => e = .returned (.bool true) ∧ Below w.heap.size w w' := by
  have hm0 : s.sacks.length ≤ 9223372036854775807 := by have := h0.1; have := h0.2.1; unfold maxLen at this; omega
  have hm1 : s.data.length ≤ 9223372036854775807 := by have := h1.1; have := h1.2.1; unfold maxLen at this; omega
  have K0 := Lib.hid (fun W (hb : Below w.heap.size w W) => law_sameRanges s.sacks A0 A2 c0 c2 _ _ W (h0.below hb) (h2.below hb) hm0)
  have K1 := Lib.hid (fun W (hb : Below w.heap.size w W) => law_sameBytes s.data A1 A3 c1 c3 _ _ W (h1.below hb) (h3.below hb) hm1)
  clear h0 h1 h2 h3 hm0 hm1
  unfold Segment.val
  generalize s.sacks.length = n0 at *
  generalize s.data.length = n1 at *
  obtain ⟨seq, ack, window, syn, fin, rst, acks, sacks, data⟩ := s
  dsimp only at *
  have e1 : (seq == seq) = true := by simp
  have e2 : (ack == ack) = true := by simp
  have e3 : (window == window) = true := by simp
  have e4 : (syn == syn) = true := by simp
  have e5 : (fin == fin) = true := by simp
  have e6 : (rst == rst) = true := by simp
  have e7 : (acks == acks) = true := by simp
  go_enter Try.func35, Try.ntmps35
  go_wp2_with (first
    | (go_at_call 22; refine (K0.out _ (by repeat (first | (with_reducible exact Below.refl _ _) | (with_reducible assumption) | (with_reducible refine bset ?_ ?_ _) | (with_reducible refine balloc ?_ _) | (with_reducible refine Below.drew ?_) | (with_reducible refine bdrewN ?_ _) | (with_reducible refine bnext ?_ (by with_reducible assumption)) | exact Nat.le_refl _ | (simp; done) | omega | (simp; omega)))).mono ?_; rintro e w1 ⟨rfl, hb1⟩; have B1 : Below w.heap.size w w1 := (by repeat (first | (with_reducible exact Below.refl _ _) | (with_reducible assumption) | (with_reducible refine bset ?_ ?_ _) | (with_reducible refine balloc ?_ _) | (with_reducible refine Below.drew ?_) | (with_reducible refine bdrewN ?_ _) | (with_reducible refine bnext ?_ (by with_reducible assumption)) | exact Nat.le_refl _ | (simp; done) | omega | (simp; omega))); have ha1 : ∀ b o, b < w.heap.size → w1.cell? ⟨b, o, none⟩ = w.cell? ⟨b, o, none⟩ := fun b o h => B1.cell (p := ⟨b, o, none⟩) h; have hk1 : ∀ k, k < w.heap.size → k < w1.heap.size := fun _ h => Nat.lt_of_lt_of_le h B1.size; have hz1 := hb1.size; (try simp at hz1); have hl1_w0 : w.heap.size < w1.heap.size := Nat.lt_of_lt_of_le (by first | (simp; done) | (simp; omega) | omega) hb1.size; have hc1_w0 := fun o => hb1.cell (p := ⟨w.heap.size, o, none⟩) (by first | (simp; done) | (simp; omega) | omega); have hf1_w0 := fun o => hb1.frozen (p := ⟨w.heap.size, o, none⟩) (by first | (simp; done) | (simp; omega) | omega); (try simp [go_sem, *] at hc1_w0); (try simp [go_sem, *] at hf1_w0); have hl1_w1 : w.heap.size + 1 < w1.heap.size := Nat.lt_of_lt_of_le (by first | (simp; done) | (simp; omega) | omega) hb1.size; have hc1_w1 := fun o => hb1.cell (p := ⟨w.heap.size + 1, o, none⟩) (by first | (simp; done) | (simp; omega) | omega); have hf1_w1 := fun o => hb1.frozen (p := ⟨w.heap.size + 1, o, none⟩) (by first | (simp; done) | (simp; omega) | omega); (try simp [go_sem, *] at hc1_w1); (try simp [go_sem, *] at hf1_w1); clear hb1)
    | (go_at_call 17; refine (K1.out _ (by repeat (first | (with_reducible exact Below.refl _ _) | (with_reducible assumption) | (with_reducible refine bset ?_ ?_ _) | (with_reducible refine balloc ?_ _) | (with_reducible refine Below.drew ?_) | (with_reducible refine bdrewN ?_ _) | (with_reducible refine bnext ?_ (by with_reducible assumption)) | exact Nat.le_refl _ | (simp; done) | omega | (simp; omega)))).mono ?_; rintro e w2 ⟨rfl, hb2⟩)
    | fail)
  go_ret
  exact ⟨rfl, (by repeat (first | (with_reducible exact Below.refl _ _) | (with_reducible assumption) | (with_reducible refine bset ?_ ?_ _) | (with_reducible refine balloc ?_ _) | (with_reducible refine Below.drew ?_) | (with_reducible refine bdrewN ?_ _) | (with_reducible refine bnext ?_ (by with_reducible assumption)) | exact Nat.le_refl _ | (simp; done) | omega | (simp; omega)))⟩
theorem SegRes.mono {r : Except Int Segment} {w w1 : World} {e : Ending} (h : SegRes r w e w1) : ∃ A0 c0 A1 c1, e = .returned (.tuple #[(segOr r).val A0 c0 A1 c1, .int .i64 (exC r)]) ∧ SlRep Rng.rep w1 (· < w1.heap.size) (segOr r).sacks A0 c0 ∧ SlRep Rep.u8 w1 (· < w1.heap.size) (segOr r).data A1 c1 ∧ Below w.heap.size w w1 := by
  obtain ⟨A0, c0, A1, c1, he, h0, h1, hb⟩ := h
  exact ⟨A0, c0, A1, c1, he, h0.keep fun j hj => ⟨hj.2, rfl⟩, h1.keep fun j hj => ⟨hj.2, rfl⟩, hb⟩
set_option maxHeartbeats 2000000 in
theorem lawSegDecodes_walk (b : List UInt8) (A : Option Addr) (c : Nat) (w : World) (hl : SlRep Rep.u8 w (· < w.heap.size) b A c) (hok : AllOk 1 AnyOk b) :
    Calls Try.prog 10 #[.slice A b.length c] w fun e w' => e = .returned (.bool true) ∧ Below w.heap.size w w' := by
  have hn : b.length ≤ 140737488351232 := by have := hok.2; omega
  have K0 := Lib.hid (seg_Decode_res b A c w hl hn)
  have K1 := Lib.hid (fun W (hb : Below w.heap.size w W) => ref_Decoded_res b A c W (hl.next hb) hn)
  clear hl hok
  go_enter Try.func10, Try.ntmps10
  go_wp2_with fail
  refine K0.out.mono ?_
  intro e w1 hr1
  obtain ⟨A0, c0, A1, c1, rfl, h0, h1, hb1⟩ := hr1.mono
  have H0 := Lib.hid h0
  have H1 := Lib.hid h1
  clear hr1 h0 h1 K0
  obtain ⟨s, hs⟩ : ∃ s, s = segOr (sg.dec b) := ⟨_, rfl⟩
  obtain ⟨er, her⟩ : ∃ er, er = exC (sg.dec b) := ⟨_, rfl⟩
  rw [← hs, ← her]
  rw [← hs] at H0 H1
  unfold Segment.val
  have hee : (er == er) = true := by simp
  have hcx : SegAt (w1.alloc (.cells #[.int .i64 s.seq, .int .i64 s.ack, .int .i64 s.window, .bool s.syn, .bool s.fin, .bool s.rst, .bool s.acks, .slice A0 s.sacks.length c0, .slice A1 s.data.length c1] 50)) w1.heap.size s A0 c0 A1 c1 := segAt_alloc w1 s A0 A1 c0 c1
  have HCX := Lib.hid hcx
  have hb0 : Below w1.heap.size w1 (w1.alloc (.cells #[.int .i64 s.seq, .int .i64 s.ack, .int .i64 s.window, .bool s.syn, .bool s.fin, .bool s.rst, .bool s.acks, .slice A0 s.sacks.length c0, .slice A1 s.data.length c1] 50)) := balloc (bself w1) _
  have hsz : w1.heap.size < (w1.alloc (.cells #[.int .i64 s.seq, .int .i64 s.ack, .int .i64 s.window, .bool s.syn, .bool s.fin, .bool s.rst, .bool s.acks, .slice A0 s.sacks.length c0, .slice A1 s.data.length c1] 50)).heap.size := by simp
  clear hcx
  have HS := Lib.hid hs
  have HER := Lib.hid her
  clear hs her
  go_wp2_with fail
  generalize w1.alloc (.cells #[.int .i64 s.seq, .int .i64 s.ack, .int .i64 s.window, .bool s.syn, .bool s.fin, .bool s.rst, .bool s.acks, .slice A0 s.sacks.length c0, .slice A1 s.data.length c1] 50) = w2 at *
  have hB2 : Below w.heap.size w w2 := bnext hb1 hb0
  refine (K1.out w2 hB2).mono ?_
  intro e w3 hr3
  obtain ⟨A2, c2, A3, c3, rfl, h2, h3, hb3⟩ := hr3.mono
  rw [← HS.out, ← HER.out]
  rw [← HS.out] at h2 h3
  have hC3 := HCX.out.below hb3 hsz
  have HK := Lib.hid (fun W (hb : Below w3.heap.size w3 W) => law_sameSegment s A0 A1 A2 A3 c0 c1 c2 c3 W ((((H0.out.next hb0).next hb3)).next hb) ((((H1.out.next hb0).next hb3)).next hb) (h2.next hb) (h3.next hb))
  have hs3 : w1.heap.size < w3.heap.size := Nat.lt_of_lt_of_le hsz hb3.size
  clear hr3 h2 h3 K1 HCX
  obtain ⟨_, q0, q1, q2, q3, q4, q5, q6, q7, q8⟩ := hC3
  unfold Segment.val at HK ⊢
  clear HS HER
  generalize s.sacks.length = n0 at *
  generalize s.data.length = n1 at *
  obtain ⟨seq, ack, window, syn, fin, rst, acks, sacks, data⟩ := s
  dsimp only at *
  clear H0 H1
  go_wp2_with (go_at_call 35; refine (HK.out _ (balloc (bself w3) _)).mono ?_; rintro e w5 ⟨rfl, hb5⟩)
  go_ret
  exact ⟨rfl, (by repeat (first | (with_reducible exact Below.refl _ _) | (with_reducible assumption) | (with_reducible refine bset ?_ ?_ _) | (with_reducible refine balloc ?_ _) | (with_reducible refine Below.drew ?_) | (with_reducible refine bdrewN ?_ _) | (with_reducible refine bnext ?_ (by with_reducible assumption)) | exact Nat.le_refl _ | (simp; done) | omega | (simp; omega)))⟩
end Go.Proofs.Ytedbidblnjajdaa
