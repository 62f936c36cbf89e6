/- Package huff: may; the reference's HuffMay; equal lists of ints. No condition. -/
import Derived.Test.YtkbmpppendelcaaPrA
import Derived.Test.YtkbmpppendelcaaPrB
import Derived.Laws.ShiftsVarLaws
import Derived.IntWalk
namespace Go.Proofs.Ytkbmpppendelcaa
open Go.RowKit
set_option linter.unusedSimpArgs false


theorem hf.shl_part {n : Int} (h1 : 0 < n) (h2 : n ≤ 40) : ((hf.part n : Nat) : Int) = 2 ^ (40 - n).toNat := by
  unfold hf.part
  rw [show 40 - n.toNat = (40 - n).toNat by omega]
  push_cast
  rfl
set_option maxHeartbeats 1000000 in
theorem huff_may (l : List Int) (A : Option Addr) (c : Nat) (S : Nat → Prop) (w : World) (hl : SlRep Rep.int w S l A c) (hn : l.length ≤ 9223372036854775807) :
    Calls Try.prog 25 #[.slice A l.length c] w fun e w' => e = .returned (.bool (hf.may l)) ∧ w = w' := by
  have HL := Lib.hid hl
  clear hl
  go_enter Try.func25, Try.ntmps25
  go_wp2
  go_loop [3, 8] (fun v i => ∃ (k : Nat) (x : Int), k ≤ l.length ∧ i = .int .i64 k ∧ v = .int .i64 x ∧ Hid (hf.bound l k ∧ (l.length ≤ 64 → x = hf.sumTo l k))) (fun _ i => l.length - (intOf i).toNat)
  case atStart => exact ⟨0, 0, by omega, rfl, rfl, Lib.hid ⟨fun j hj => by omega, fun _ => rfl⟩⟩
  case round =>
    obtain ⟨k, x, hk, rfl, rfl, HJ⟩ := hrel
    by_cases hlt : k < l.length
    · obtain ⟨b, o, rfl, _, hc1⟩ := int_at HL.out hlt
      have hlt' : (k : Int) < (l.length : Int) := by omega
      by_cases h1 : l.getD k 0 < 0
      · have hF : Hid (hf.may l = false) := Lib.hid (by
          cases hm : hf.may l
          · rfl
          · have := ((hf.fits_iff l).1 (hf.may_iff.1 hm)).2.1 k hlt; omega)
        clear HJ
        generalize l.getD k 0 = y at *
        go_wp2
        go_ret
        rw [hF.out]; exact ⟨rfl, rfl⟩
      · by_cases h2 : 40 < l.getD k 0
        · have hF : Hid (hf.may l = false) := Lib.hid (by
            cases hm : hf.may l
            · rfl
            · have := ((hf.fits_iff l).1 (hf.may_iff.1 hm)).2.1 k hlt; omega)
          clear HJ
          generalize l.getD k 0 = y at *
          go_wp2
          go_ret
          rw [hF.out]; exact ⟨rfl, rfl⟩
        · have hb1 : hf.bound l (k + 1) := fun j hj => by
            by_cases e : j = k
            · subst e; omega
            · exact HJ.out.1 j (by omega)
          by_cases h3 : 0 < l.getD k 0
          · obtain ⟨v, hv⟩ : ∃ v, Hid (v = wrap64 (x + wrap64 (2 ^ (40 - l.getD k 0).toNat))) := ⟨_, Lib.hid rfl⟩
            have HN : Hid (hf.bound l (k + 1) ∧ (l.length ≤ 64 → v = hf.sumTo l (k + 1))) := Lib.hid ⟨hb1, fun hl => by
              have e := HJ.out.2 hl
              have b1 := hf.sumTo_le l k
              have b2 := hf.part_le (l.getD k 0)
              rw [hv.out, hf.sumTo_succ, if_pos h3, ← hf.shl_part h3 (by omega), IntWalk.wrap64_in ((hf.part (l.getD k 0) : Nat) : Int) (by omega), e, IntWalk.wrap64_in _ (by omega)]
              push_cast
              rfl⟩
            clear HJ hb1
            generalize l.getD k 0 = y at *
            have hv2 := hv.out
            go_wp2
            go_roundw
            case rel => exact ⟨k + 1, v, by omega, by go_num, by rw [hv2], HN⟩
            case measure => simp [intOf]; omega
          · have HN : Hid (hf.bound l (k + 1) ∧ (l.length ≤ 64 → x = hf.sumTo l (k + 1))) := Lib.hid ⟨hb1, fun hl => by
              rw [hf.sumTo_succ, if_neg h3]; exact HJ.out.2 hl⟩
            clear HJ hb1
            generalize l.getD k 0 = y at *
            go_wp2
            go_roundw
            case rel => exact ⟨k + 1, x, by omega, by go_num, rfl, HN⟩
            case measure => simp [intOf]; omega
    · have hkl : k = l.length := by omega
      subst hkl
      by_cases h1 : l.length ≤ 64
      · have e := HJ.out.2 h1
        by_cases h2 : hf.sumTo l l.length ≤ 1099511627776
        · have hF : Hid (hf.may l = true) := Lib.hid (hf.may_iff.2 ((hf.fits_iff l).2 ⟨h1, HJ.out.1, h2⟩))
          have h1' : (l.length : Int) ≤ 64 := by omega
          have h2' : x ≤ 1099511627776 := by omega
          clear HJ e
          go_wp2
          go_ret
          rw [hF.out]; exact ⟨rfl, rfl⟩
        · have hF : Hid (hf.may l = false) := Lib.hid (by
            cases hm : hf.may l
            · rfl
            · exact absurd ((hf.fits_iff l).1 (hf.may_iff.1 hm)).2.2 h2)
          have h1' : (l.length : Int) ≤ 64 := by omega
          have h2' : ¬ (x ≤ 1099511627776) := by omega
          clear HJ e
          go_wp2
          go_ret
          rw [hF.out]; exact ⟨rfl, rfl⟩
      · have hF : Hid (hf.may l = false) := Lib.hid (by
          cases hm : hf.may l
          · rfl
          · exact absurd ((hf.fits_iff l).1 (hf.may_iff.1 hm)).1 h1)
        have h1' : ¬ ((l.length : Int) ≤ 64) := by omega
        clear HJ
        go_wp2
        go_ret
        rw [hF.out]; exact ⟨rfl, rfl⟩
end Go.Proofs.Ytkbmpppendelcaa
