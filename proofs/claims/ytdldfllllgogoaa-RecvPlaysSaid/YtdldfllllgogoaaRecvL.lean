/- The walk of the law RecvPlays. No condition. -/
import Derived.Test.YtdldfllllgogoaaRecvR8
namespace Go.Proofs.Ytdldfllllgogoaa
open Go.RowKit
set_option linter.unusedSimpArgs false

def rv.zd : Told := ⟨0, 0, 0, [], [], false⟩
set_option maxRecDepth 100000 in
set_option maxHeartbeats 2000000 in
theorem lawRecvPlays_walk {w : World} (room : Int) (_ : IntOk room) (l : List Arrival) (A : Option Addr) (c : Nat) (hl : SlRep Arrival.rep w (· < w.heap.size) l A c) (hok : AllOk 56 Arrival.ok l) :
    Calls Try.prog 4 #[.int .i64 room, .slice A l.length c] w fun e w' => e = .returned (.bool true) ∧ Below w.heap.size w w' := by
  have hn : l.length ≤ 140737488351232 := by have := hok.2; omega
  have hd : ∀ a ∈ l, IntOk a.from_ ∧ a.data.length ≤ 140737488351232 := fun a ha => ⟨(hok.1 a ha).2.1, by have := (hok.1 a ha).2.2.1.2; omega⟩
  have HL := Lib.hid hl
  have HD := Lib.hid hd
  clear hl hok hd
  go_enter Try.func4, Try.ntmps4
  go_wp2_with fail
  refine (recv_Play_res room l A c w HL.out hn HD.out).mono ?_
  rintro e w1 ⟨B1, d1, rfl, ho1, hb1⟩
  have HO1 := Lib.hid ho1
  clear ho1
  go_wp2_with fail
  refine (ref_RecvPlayed_res room l A c w1 (HL.out.next hb1) hn HD.out).mono ?_
  rintro e w2 ⟨B2, d2, rfl, ho2, hb2⟩
  have R1 : Hid (SlRep Told.rep w2 (· < w2.heap.size) (exL (rv.play room l)) B1 d1) := Lib.hid (HO1.out.keep fun q hq => ⟨Nat.lt_of_lt_of_le hq.2 hb2.size, hb2.block q hq.2⟩)
  have R2 : Hid (SlRep Told.rep w2 (· < w2.heap.size) (exL (rv.play room l)) B2 d2) := Lib.hid (ho2.keep fun q hq => ⟨hq.2, rfl⟩)
  have hmo : (exL (rv.play room l)).length ≤ 9223372036854775807 := by have := ho2.1; have := ho2.2.1; unfold maxLen at this; omega
  have hB2 : Below w.heap.size w w2 := bnext hb1 hb2
  clear ho2 HO1 hb1 hb2 HL HD
  generalize exL (rv.play room l) = o at *
  generalize exC (rv.play room l) = er at *
  go_wp2
  go_loopw [9] (fun i wr => ∃ k : Nat, k ≤ o.length ∧ i = .int .i64 k ∧ Below w2.heap.size w2 wr) (fun i _ => o.length - (intOf i).toNat)
  case atStart => exact ⟨0, by omega, rfl, Below.refl _ _⟩
  case round =>
    obtain ⟨k, hk, rfl, hB⟩ := hrel
    rename World => wr
    by_cases hlt : k < o.length
    · obtain ⟨b1, o1, rfl, hb1, A1, c1, A2, c2, p0, p1, p2, p3, p4, p5, s1, s2⟩ := Told.cells_at rv.zd (R1.out.below hB) hlt
      obtain ⟨b2, o2, rfl, hb2, A3, c3, A4, c4, q0, q1, q2, q3, q4, q5, s3, s4⟩ := Told.cells_at rv.zd (R2.out.below hB) hlt
      have hlt' : (k : Int) < (o.length : Int) := by omega
      have hz := hB.size
      have hb1' : b1 < wr.heap.size := by omega
      have hb2' : b2 < wr.heap.size := by omega
      have hlen : (o.getD k rv.zd).data.length ≤ 9223372036854775807 := by have := s2.1; have := s2.2.1; unfold maxLen at this; omega
      have hlenw : (o.getD k rv.zd).sacks.length ≤ 9223372036854775807 := by have := s1.1; have := s1.2.1; unfold maxLen at this; omega
      have S1 := Lib.hid s1
      have S2 := Lib.hid s2
      have S3 := Lib.hid s3
      have S4 := Lib.hid s4
      have HB := Lib.hid hB
      clear s1 s2 s3 s4 hB
      generalize o.getD k rv.zd = x at *
      obtain ⟨xc, xa, xw, xs, xd, xe⟩ := x
      dsimp only at p0 p1 p2 p3 p4 p5 q0 q1 q2 q3 q4 q5 S1 S2 S3 S4 hlen hlenw
      have hbc : (xc != xc) = false := by simp
      have hba : (xa != xa) = false := by simp
      have hbw : (xw != xw) = false := by simp
      have hbe : (xe != xe) = false := by simp
      have HSR := Lib.hid (fun wx (hb : Below w2.heap.size w2 wx) => law_sameRanges xs A1 A3 c1 c3 (· < w2.heap.size) (· < w2.heap.size) wx (S1.out.keep fun q hq => ⟨hq, ((hb.block q hq).trans (HB.out.block q hq).symm)⟩) (S3.out.keep fun q hq => ⟨hq, ((hb.block q hq).trans (HB.out.block q hq).symm)⟩) hlenw)
      have HSB := Lib.hid (fun wx (hb : Below w2.heap.size w2 wx) => law_sameBytes xd A2 A4 c2 c4 (· < w2.heap.size) (· < w2.heap.size) wx (S2.out.keep fun q hq => ⟨hq, ((hb.block q hq).trans (HB.out.block q hq).symm)⟩) (S4.out.keep fun q hq => ⟨hq, ((hb.block q hq).trans (HB.out.block q hq).symm)⟩) hlen)
      go_wp2_with (first
        | (go_at_call 12; ((refine (HSR.out _ (balloc (balloc HB.out _) _)).mono ?_); rintro e w5 ⟨rfl, hb5⟩; have HB5 := Lib.hid hb5; have HB6 : Hid (Below w2.heap.size w2 w5) := Lib.hid ((balloc (balloc HB.out _) _).trans (hb5.mono (by simp only [World.size_alloc]; omega))); have y0 := hb5.cell (p := ⟨wr.heap.size, 4, none⟩) (by simp only [World.size_alloc]; omega); have y1 := hb5.cell (p := ⟨wr.heap.size + 1, 4, none⟩) (by simp); simp [go_sem] at y0 y1; clear hb5))
        | (go_at_call 9; ((refine (HSB.out _ HB6.out).mono ?_); rintro e w6 ⟨rfl, hb6⟩; have HB7 : Hid (Below w2.heap.size w2 w6) := Lib.hid (HB6.out.trans (hb6.mono HB6.out.size)); clear hb6))
        | fail)
      go_roundw
      case rel => exact ⟨k + 1, by omega, by go_num, HB7.out⟩
      case measure => simp [intOf]; omega
    · go_wp2
      go_ret
      exact ⟨rfl, bnext hB2 hB⟩
end Go.Proofs.Ytdldfllllgogoaa
