/- Package delta: the walk of the law DeltaDeltas. No condition. -/
import Derived.Test.YtedbidblnjajdaaDelta5
namespace Go.Proofs.Ytedbidblnjajdaa
open Go.RowKit

set_option maxRecDepth 100000 in
set_option maxHeartbeats 2000000 in
theorem law_samePieces (L : List Piece) (A A' : Option Addr) (c c' : Nat) (w : World) (hl : SlRep Piece.rep w (· < w.heap.size) L A c) (hl' : SlRep Piece.rep w (· < w.heap.size) L A' c') :
    Calls Try.prog 25 #[.slice A L.length c, .slice A' L.length c'] w fun e w' => e = .returned (.bool true) ∧ Below w.heap.size w w' := by
  have hm : L.length ≤ 9223372036854775807 := by have := hl.1; have := hl.2.1; unfold maxLen at this; omega
  have HL := Lib.hid hl
  have HL' := Lib.hid hl'
  clear hl hl'
  go_enter Try.func25, Try.ntmps25
  go_wp2
  go_loopw [5] (fun i wr => ∃ k : Nat, k ≤ L.length ∧ i = .int .i64 k ∧ Below w.heap.size w wr) (fun i _ => L.length - (intOf i).toNat)
  case atStart => exact ⟨0, by omega, rfl, Below.refl _ _⟩
  case round =>
    obtain ⟨k, hk, rfl, hB⟩ := hrel
    rename World => wr
    have hsz := hB.size
    by_cases hlt : k < L.length
    · obtain ⟨b1, o1, rfl, hb1, A1, c1, hc1, hc2, hc3, hc4, hr1⟩ := Piece.cells_at dlt.z (HL.out.below hB) hlt
      obtain ⟨b2, o2, rfl, hb2, A2, c2, hd1, hd2, hd3, hd4, hr2⟩ := Piece.cells_at dlt.z (HL'.out.below hB) hlt
      have hlt' : (k : Int) < (L.length : Int) := by omega
      have hw1 : b1 < wr.heap.size := by omega
      have hw2 : b2 < wr.heap.size := by omega
      have hlen : (L.getD k dlt.z).data.length ≤ 9223372036854775807 := by have := hr1.1; have := hr1.2.1; unfold maxLen at this; omega
      have R1 := Lib.hid hr1
      have R2 := Lib.hid hr2
      clear hr1 hr2 HL HL'
      generalize L.getD k dlt.z = p at *
      obtain ⟨cp, fr, ln, dt⟩ := p
      dsimp only at hc1 hc2 hc3 hc4 hd1 hd2 hd3 hd4 hlen R1 R2
      have hbq : (cp != cp) = false := by simp
      go_wp2_with fail
      go_quiet ((go_at_call 17; exact Calls.quiet_of (law_sameBytes_q dt _ _ _ _ (· < w.heap.size) (· < w.heap.size) _ (R1.out.keep fun k hk => ⟨hk, rfl⟩) (R2.out.keep fun k hk => ⟨hk, rfl⟩) hlen)))
      go_wp2
      go_roundw
      case rel => exact ⟨k + 1, by omega, by go_num, bdrewN hB _⟩
      case measure => simp [intOf]; omega
    · go_wp2
      go_ret
      exact ⟨rfl, hB⟩

def deltaq.far (o n : List UInt8) : Prop := 2048 < o.length ∨ 2048 < n.length
set_option maxHeartbeats 400000 in
theorem delta_Delta_long (o n : List UInt8) (A0 A1 : Option Addr) (c0 c1 : Nat) (w : World) (h : deltaq.far o n) (ho : o.length ≤ 140737488351232) (hn : n.length ≤ 140737488351232) :
    Calls Try.prog 23 #[.slice A0 o.length c0, .slice A1 n.length c1] w (PcsRes [] 1 w) := by
  unfold deltaq.far at h
  go_enter Try.func23, Try.ntmps23
  by_cases h1 : 2048 < o.length
  · go_wp2
    go_ret2
    exact ⟨none, 0, rfl, ⟨Nat.le_refl _, Nat.zero_le _, .inl rfl⟩, Below.refl _ _⟩
  · have h1i : (o.length : Int) ≤ 2048 := by omega
    have h2 : 2048 < n.length := by omega
    go_wp2
    go_ret2
    exact ⟨none, 0, rfl, ⟨Nat.le_refl _, Nat.zero_le _, .inl rfl⟩, Below.refl _ _⟩
set_option maxHeartbeats 400000 in
theorem ref_DeltaOf_long (o n : List UInt8) (A0 A1 : Option Addr) (c0 c1 : Nat) (w : World) (h : deltaq.far o n) (ho : o.length ≤ 140737488351232) (hn : n.length ≤ 140737488351232) :
    Calls Try.prog 24 #[.slice A0 o.length c0, .slice A1 n.length c1] w (PcsRes [] 1 w) := by
  unfold deltaq.far at h
  go_enter Try.func24, Try.ntmps24
  by_cases h1 : 2048 < o.length
  · go_wp2
    go_ret2
    exact ⟨none, 0, rfl, ⟨Nat.le_refl _, Nat.zero_le _, .inl rfl⟩, Below.refl _ _⟩
  · have h1i : (o.length : Int) ≤ 2048 := by omega
    have h2 : 2048 < n.length := by omega
    go_wp2
    go_ret2
    exact ⟨none, 0, rfl, ⟨Nat.le_refl _, Nat.zero_le _, .inl rfl⟩, Below.refl _ _⟩
theorem delta_both (o n : List UInt8) (ho : o.length ≤ 140737488351232) (hn : n.length ≤ 140737488351232) : ∃ (L : List Piece) (e : Int), (∀ (A0 A1 : Option Addr) (c0 c1 : Nat) (w : World), SlRep Rep.u8 w (· < w.heap.size) o A0 c0 → SlRep Rep.u8 w (· < w.heap.size) n A1 c1 → Calls Try.prog 23 #[.slice A0 o.length c0, .slice A1 n.length c1] w (PcsRes L e w)) ∧
    ∀ (A0 A1 : Option Addr) (c0 c1 : Nat) (w : World), SlRep Rep.u8 w (· < w.heap.size) o A0 c0 → SlRep Rep.u8 w (· < w.heap.size) n A1 c1 → Calls Try.prog 24 #[.slice A0 o.length c0, .slice A1 n.length c1] w (PcsRes L e w) := by
  by_cases h : deltaq.far o n
  · exact ⟨[], 1, fun A0 A1 c0 c1 w _ _ => delta_Delta_long o n A0 A1 c0 c1 w h ho hn, fun A0 A1 c0 c1 w _ _ => ref_DeltaOf_long o n A0 A1 c0 c1 w h ho hn⟩
  · unfold deltaq.far at h
    exact ⟨_, 0, fun A0 A1 c0 c1 w h1 h2 => delta_Delta_ok o n A0 A1 c0 c1 w h1 h2 (by omega) (by omega), fun A0 A1 c0 c1 w h1 h2 => ref_DeltaOf_ok o n A0 A1 c0 c1 w h1 h2 (by omega) (by omega)⟩

set_option maxHeartbeats 400000 in
theorem lawDeltaDeltas_walk {w : World} (o : List UInt8) (A0 : Option Addr) (c0 : Nat) (h0 : SlRep Rep.u8 w (· < w.heap.size) o A0 c0) (k0 : AllOk 1 AnyOk o) (n : List UInt8) (A1 : Option Addr) (c1 : Nat) (h1 : SlRep Rep.u8 w (· < w.heap.size) n A1 c1) (k1 : AllOk 1 AnyOk n) :
    Calls Try.prog 6 #[.slice A0 o.length c0, .slice A1 n.length c1] w fun e w' => e = .returned (.bool true) ∧ Below w.heap.size w w' := by
  obtain ⟨L, er, hD, hR⟩ := delta_both o n (by have := k0.2; omega) (by have := k1.2; omega)
  have H0 := Lib.hid h0
  have H1 := Lib.hid h1
  have HD := Lib.hid hD
  have HR := Lib.hid hR
  clear h0 h1 k0 k1 hD hR
  go_enter Try.func6, Try.ntmps6
  go_wp2_with fail
  refine (HD.out A0 A1 c0 c1 w H0.out H1.out).mono ?_
  rintro e w1 ⟨A2, c2, rfl, ho1, hb1⟩
  have HO1 := Lib.hid ho1
  clear ho1
  go_wp2_with fail
  refine (HR.out A0 A1 c0 c1 w1 (H0.out.next hb1) (H1.out.next hb1)).mono ?_
  rintro e w2 ⟨A3, c3, rfl, ho2, hb2⟩
  have HO2 := Lib.hid ho2
  clear ho2
  have HO3 : Hid (SlRep Piece.rep w2 (· < w2.heap.size) L A2 c2) := Lib.hid (HO1.out.keep fun q hq => ⟨Nat.lt_of_lt_of_le hq.2 hb2.size, hb2.block q hq.2⟩)
  go_wp2_with fail
  refine (law_samePieces L A2 A3 c2 c3 w2 HO3.out (HO2.out.keep fun q hq => ⟨hq.2, rfl⟩)).mono ?_
  rintro e w3 ⟨rfl, hb3⟩
  go_wp2_with fail
  go_ret
  exact ⟨rfl, (by repeat (first | (with_reducible exact Below.refl _ _) | (with_reducible assumption) | (with_reducible refine bset ?_ ?_ _) | (with_reducible refine balloc ?_ _) | (with_reducible refine Below.drew ?_) | (with_reducible refine bdrewN ?_ _) | (with_reducible refine bnext ?_ (by with_reducible assumption)) | exact Nat.le_refl _ | (simp; done) | omega | (simp; omega)))⟩
end Go.Proofs.Ytedbidblnjajdaa
