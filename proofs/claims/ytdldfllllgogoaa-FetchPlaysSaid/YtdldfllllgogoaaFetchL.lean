/- The walk of the law FetchPlays. No condition. -/
import Derived.Test.YtdldfllllgogoaaFetchR2
namespace Go.Proofs.Ytdldfllllgogoaa
open Go.RowKit
set_option linter.unusedSimpArgs false

def ft.zn : Next := ⟨0, [], false, []⟩
set_option maxRecDepth 100000 in
set_option maxHeartbeats 2000000 in
theorem lawFetchPlays_walk {w : World} (l : List Got) (A : Option Addr) (c : Nat) (hl : SlRep Got.rep w (· < w.heap.size) l A c) (hok : AllOk 40 Got.ok l) :
    Calls Try.prog 3 #[.slice A l.length c] w fun e w' => e = .returned (.bool true) ∧ Below w.heap.size w w' := by
  have hn : l.length ≤ 140737488351232 := by have := hok.2; omega
  have hd : ∀ g ∈ l, g.data.length ≤ 140737488351232 := fun g hg => by have := (hok.1 g hg).2.2.2; omega
  have HL := Lib.hid hl
  have HD := Lib.hid hd
  have HE := Lib.hid (ft.play_eq l)
  clear hl hok hd
  go_enter Try.func3, Try.ntmps3
  go_wp2_with fail
  refine (fetch_Play_res l A c w HL.out hn HD.out).mono ?_
  rintro e w1 ⟨B1, d1, rfl, ho1, hb1⟩
  have HO1 := Lib.hid ho1
  clear ho1
  go_wp2_with fail
  refine (ref_Fetch_res l A c w1 (HL.out.next hb1) hn HD.out).mono ?_
  rw [HE.out]
  rintro e w2 ⟨B2, d2, rfl, ho2, hb2⟩
  have R1 : Hid (SlRep Next.rep w2 (· < w2.heap.size) (exL (ft.play l)) B1 d1) := Lib.hid (HO1.out.keep fun q hq => ⟨Nat.lt_of_lt_of_le hq.2 hb2.size, hb2.block q hq.2⟩)
  have R2 : Hid (SlRep Next.rep w2 (· < w2.heap.size) (exL (ft.play l)) B2 d2) := Lib.hid (ho2.keep fun q hq => ⟨hq.2, rfl⟩)
  have hmo : (exL (ft.play l)).length ≤ 9223372036854775807 := by have := ho2.1; have := ho2.2.1; unfold maxLen at this; omega
  have hB2 : Below w.heap.size w w2 := bnext hb1 hb2
  clear ho2 HO1 hb1 hb2 HL HE HD
  generalize exL (ft.play l) = o at *
  generalize exC (ft.play l) = er at *
  go_wp2
  go_loopw [7] (fun i wr => ∃ k : Nat, k ≤ o.length ∧ i = .int .i64 k ∧ Below w2.heap.size w2 wr) (fun i _ => o.length - (intOf i).toNat)
  case atStart => exact ⟨0, by omega, rfl, Below.refl _ _⟩
  case round =>
    obtain ⟨k, hk, rfl, hB⟩ := hrel
    rename World => wr
    by_cases hlt : k < o.length
    · obtain ⟨b1, o1, rfl, hb1, A1, c1, A2, c2, p0, p1, p2, p3, s1, s2⟩ := Next.cells_at ft.zn (R1.out.below hB) hlt
      obtain ⟨b2, o2, rfl, hb2, A3, c3, A4, c4, q0, q1, q2, q3, s3, s4⟩ := Next.cells_at ft.zn (R2.out.below hB) hlt
      have hlt' : (k : Int) < (o.length : Int) := by omega
      have hz := hB.size
      have hb1' : b1 < wr.heap.size := by omega
      have hb2' : b2 < wr.heap.size := by omega
      have hlen : (o.getD k ft.zn).data.length ≤ 9223372036854775807 := by have := s2.1; have := s2.2.1; unfold maxLen at this; omega
      have hlenw : (o.getD k ft.zn).wants.length ≤ 9223372036854775807 := by have := s1.1; have := s1.2.1; unfold maxLen at this; omega
      have S1 := Lib.hid s1
      have S2 := Lib.hid s2
      have S3 := Lib.hid s3
      have S4 := Lib.hid s4
      have HB := Lib.hid hB
      clear s1 s2 s3 s4 hB
      generalize o.getD k ft.zn = x at *
      obtain ⟨xc, xw, xd, xb⟩ := x
      dsimp only at p0 p1 p2 p3 q0 q1 q2 q3 S1 S2 S3 S4 hlen hlenw
      have hbq : (xc != xc) = false := by simp
      have hbd : (xd != xd) = false := by simp
      have HSB := Lib.hid (fun wx (hb : Below w2.heap.size w2 wx) => law_sameBytes xb A2 A4 c2 c4 (· < w2.heap.size) (· < w2.heap.size) wx (S2.out.keep fun q hq => ⟨hq, ((hb.block q hq).trans (HB.out.block q hq).symm)⟩) (S4.out.keep fun q hq => ⟨hq, ((hb.block q hq).trans (HB.out.block q hq).symm)⟩) hlen)
      go_upto_region 12 with (first
        | (go_at_call 9; refine (HSB.out _ (balloc (balloc HB.out _) _)).mono ?_; rintro e w5 ⟨rfl, hb5⟩; have HB5 := Lib.hid hb5; have y0 := hb5.cell (p := ⟨wr.heap.size, 1, none⟩) (by simp; omega); have y1 := hb5.cell (p := ⟨wr.heap.size + 1, 1, none⟩) (by simp); simp [go_sem] at y0 y1; clear hb5)
        | fail)
      have HB6 : Hid (Below w2.heap.size w2 w5) := Lib.hid ((balloc (balloc HB.out _) _).trans (HB5.out.mono (by simp; omega)))
      have hl5 : wr.heap.size + 1 < w5.heap.size := by have := HB5.out.size; simp at this; omega
      have S5 : Hid (SlRep Want.rep w5 (· < w2.heap.size) xw A1 c1) := Lib.hid (S1.out.keep fun q hq => ⟨hq, (HB6.out.block q hq).trans (HB.out.block q hq).symm⟩)
      have S6 : Hid (SlRep Want.rep w5 (· < w2.heap.size) xw A3 c3) := Lib.hid (S3.out.keep fun q hq => ⟨hq, (HB6.out.block q hq).trans (HB.out.block q hq).symm⟩)
      clear p0 p1 p2 p3 q0 q1 q2 q3 S1 S2 S3 S4 HSB HB5 HB
      go_wp2
      go_loopw [10] (fun i wx => ∃ j m : Nat, j ≤ xw.length ∧ i = .int .i64 j ∧ wx = w5.drewN m) (fun i _ => xw.length - (intOf i).toNat)
      case atStart => exact ⟨0, 0, by omega, rfl, rfl⟩
      case round =>
        obtain ⟨j, m, hj, rfl, rfl⟩ := hrel
        by_cases hjl : j < xw.length
        · obtain ⟨b3, o3, rfl, hb3, e0, e1⟩ := Want.cells_at ⟨0, 0⟩ S5.out hjl
          obtain ⟨b4, o4, rfl, hb4, e2, e3⟩ := Want.cells_at ⟨0, 0⟩ S6.out hjl
          have hjl' : (j : Int) < (xw.length : Int) := by omega
          generalize xw.getD j ⟨0, 0⟩ = y at *
          obtain ⟨ya, yc⟩ := y
          dsimp only at e0 e1 e2 e3
          go_wp2
          go_quiet (fail)
          go_wp2
          go_roundw
          case rel => exact ⟨j + 1, _, by omega, by go_num, rfl⟩
          case measure => simp [intOf]; omega
        · go_wp2
          go_roundw
          case rel => exact ⟨k + 1, by omega, by go_num, bdrewN HB6.out _⟩
          case measure => simp [intOf]; omega
    · go_wp2
      go_ret
      exact ⟨rfl, bnext hB2 hB⟩
end Go.Proofs.Ytdldfllllgogoaa
