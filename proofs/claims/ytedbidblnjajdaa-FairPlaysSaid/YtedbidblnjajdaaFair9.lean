/- Package fair: the walk of the law FairPlays. No condition. -/
import Derived.Test.YtedbidblnjajdaaFair8
namespace Go.Proofs.Ytedbidblnjajdaa
open Go.RowKit

theorem ref_FairPlayed_res (qu : List Int) (A1 : Option Addr) (c1 : Nat) (l : List Feed) (A2 : Option Addr) (c2 : Nat) (w : World) (hqr : SlRep Rep.int w (· < w.heap.size) qu A1 c1) (hlr : SlRep Feed.rep w (· < w.heap.size) l A2 c2) (hn : qu.length ≤ 140737488351232) (hm : l.length ≤ 140737488351232) :
    Calls Try.prog 44 #[.slice A1 qu.length c1, .slice A2 l.length c2] w (fr.Res (fr.out qu l) (fr.code qu l) w) := by
  by_cases h : qu.length = 0 ∨ 6 < qu.length ∨ 300 < l.length
  · unfold fr.out fr.code
    rw [if_pos h, if_pos h]
    exact ref_FairPlayed_size _ _ c1 c2 A1 A2 w h hn hm
  · exact ref_FairPlayed_ok qu A1 c1 l A2 c2 w hqr hlr (by omega) (by omega) (by omega)

set_option maxRecDepth 100000 in
set_option maxHeartbeats 1000000 in
theorem lawFairPlays_walk {w : World} (qu : List Int) (A1 : Option Addr) (c1 : Nat) (hqr : SlRep Rep.int w (· < w.heap.size) qu A1 c1) (hok1 : AllOk 8 IntOk qu) (l : List Feed) (A2 : Option Addr) (c2 : Nat) (hlr : SlRep Feed.rep w (· < w.heap.size) l A2 c2) (hok2 : AllOk 16 Feed.ok l) :
    Calls Try.prog 13 #[.slice A1 qu.length c1, .slice A2 l.length c2] w fun e w' => e = .returned (.bool true) ∧ Below w.heap.size w w' := by
  have hn : qu.length ≤ 140737488351232 := by have := hok1.2; omega
  have hm : l.length ≤ 140737488351232 := by have := hok2.2; omega
  clear hok1 hok2
  have HQ := Lib.hid hqr
  have HL := Lib.hid hlr
  clear hqr hlr
  go_enter Try.func13, Try.ntmps13
  go_wp2_with fail
  refine (fair_Play_res qu A1 c1 l A2 c2 w HQ.out HL.out hn hm).mono ?_
  rintro e w1 ⟨B1, d1, rfl, ho1, hb1⟩
  have HO1 := Lib.hid ho1
  clear ho1
  go_wp2_with fail
  refine (ref_FairPlayed_res qu A1 c1 l A2 c2 w1 (HQ.out.next hb1) (HL.out.next hb1) hn hm).mono ?_
  rintro e w2 ⟨B2, d2, rfl, ho2, hb2⟩
  have R1 := Lib.hid ((HO1.out.next hb2).flat Served.cells (R := Served.rep) rfl (Served.enc _) (by decide)).2
  have R2 := Lib.hid (ho2.flat Served.cells (R := Served.rep) rfl (Served.enc _) (by decide)).2
  have hmo : (fr.out qu l).length ≤ 9223372036854775807 := by have := ho2.cap; unfold maxLen at this; omega
  have hB2 : Below w.heap.size w w2 := bnext hb1 hb2
  clear ho2 HO1 hb1 hb2 HL HQ
  generalize fr.out qu l = o at *
  generalize fr.code qu l = er at *
  go_wp2
  go_loopw [9] (fun i wr => ∃ k m : Nat, k ≤ o.length ∧ i = .int .i64 k ∧ wr = w2.drewN m) (fun i _ => o.length - (intOf i).toNat)
  case atStart => exact ⟨0, 0, by omega, rfl, rfl⟩
  case round =>
    obtain ⟨k, m, hk, rfl, rfl⟩ := hrel
    by_cases hlt : k < o.length
    · obtain ⟨b, o1, rfl, _, hc0, hc1, hc2⟩ := Served.cells_at ⟨0, 0, 0⟩ R1.out hlt
      obtain ⟨b', o', rfl, _, hd0, hd1, hd2⟩ := Served.cells_at ⟨0, 0, 0⟩ R2.out hlt
      have hlt' : (k : Int) < (o.length : Int) := by omega
      generalize o.getD k ⟨0, 0, 0⟩ = t at *
      obtain ⟨by_, di, ln⟩ := t
      dsimp only at hc0 hc1 hc2 hd0 hd1 hd2
      go_wp2
      go_quiet (fail)
      go_wp2
      go_roundw
      case rel => exact ⟨k + 1, _, by omega, by go_num, rfl⟩
      case measure => simp [intOf]; omega
    · go_wp2
      go_ret
      exact ⟨rfl, (by repeat (first | (with_reducible exact Below.refl _ _) | (with_reducible assumption) | (with_reducible refine bset ?_ ?_ _) | (with_reducible refine balloc ?_ _) | (with_reducible refine Below.drew ?_) | (with_reducible refine bdrewN ?_ _) | (with_reducible refine bnext ?_ (by with_reducible assumption)) | exact Nat.le_refl _ | (simp; done) | omega | (simp; omega)))⟩
end Go.Proofs.Ytedbidblnjajdaa
