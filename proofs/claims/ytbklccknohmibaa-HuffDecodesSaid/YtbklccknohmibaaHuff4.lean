/- Package huff: the reference's HuffMay. No condition. -/
import Derived.Test.YtbklccknohmibaaHuff3
namespace Go.Proofs.Ytbklccknohmibaa
open Go.RowKit
set_option linter.unusedSimpArgs false

set_option maxHeartbeats 1000000 in
theorem ref_HuffMay (l : List Int) (A : Option Addr) (c : Nat) (S : Nat → Prop) (w : World) (hl : SlRep Rep.int w S l A c) (hn : l.length ≤ 9223372036854775807) :
    Calls Try.prog 23 #[.slice A l.length c] w fun e w' => e = .returned (.bool (hf.may l)) ∧ w = w' := by
  have HL := Lib.hid hl
  clear hl
  by_cases h64 : l.length ≤ 64
  · have h64' : (l.length : Int) ≤ 64 := by omega
    go_enter Try.func23, Try.ntmps23
    go_wp2
    go_loop [3, 11] (fun v i => ∃ (k : Nat) (x : Int), k ≤ l.length ∧ i = .int .i64 k ∧ v = .int .i64 x ∧ Hid (hf.bound l k ∧ x = 1099511627776 - (hf.sumTo l k : Int))) (fun _ i => l.length - (intOf i).toNat)
    case atStart => exact ⟨0, 1099511627776, by omega, rfl, rfl, Lib.hid ⟨fun j hj => by omega, rfl⟩⟩
    case round =>
      obtain ⟨k, x, hk, rfl, rfl, HJ⟩ := hrel
      by_cases hlt : k < l.length
      · obtain ⟨b, o, rfl, _, hc1⟩ := int_at HL.out hlt
        have hlt' : (k : Int) < (l.length : Int) := by omega
        by_cases h1 : l.getD k 0 < 0
        · have hF : Hid (hf.may l = false) := Lib.hid (by
            cases hm : hf.may l
            · rfl
            · have := ((hf.fits_iff l).1 (hf.may_iff.1 hm)).2.1 k hlt; omega)
          clear HJ
          generalize l.getD k 0 = y at *
          go_wp2
          go_ret
          rw [hF.out]; exact ⟨rfl, rfl⟩
        · by_cases h2 : 40 < l.getD k 0
          · have hF : Hid (hf.may l = false) := Lib.hid (by
              cases hm : hf.may l
              · rfl
              · have := ((hf.fits_iff l).1 (hf.may_iff.1 hm)).2.1 k hlt; omega)
            clear HJ
            generalize l.getD k 0 = y at *
            go_wp2
            go_ret
            rw [hF.out]; exact ⟨rfl, rfl⟩
          · have hb1 : hf.bound l (k + 1) := fun j hj => by
              by_cases e : j = k
              · subst e; omega
              · exact HJ.out.1 j (by omega)
            have e := HJ.out.2
            have b1 := hf.sumTo_le l k
            by_cases h3 : 0 < l.getD k 0
            · obtain ⟨v, hv⟩ : ∃ v, Hid (v = wrap64 (x - wrap64 (2 ^ (40 - l.getD k 0).toNat))) := ⟨_, Lib.hid rfl⟩
              have HN : Hid (hf.bound l (k + 1) ∧ v = 1099511627776 - (hf.sumTo l (k + 1) : Int)) := Lib.hid ⟨hb1, by
                have b2 := hf.part_le (l.getD k 0)
                rw [hv.out, hf.sumTo_succ, if_pos h3, ← hf.shl_part h3 (by omega), IntWalk.wrap64_in ((hf.part (l.getD k 0) : Nat) : Int) (by omega), e, IntWalk.wrap64_in _ (by omega)]
                push_cast
                omega⟩
              clear HJ hb1 e b1
              generalize l.getD k 0 = y at *
              have hv2 := hv.out
              go_wp2
              go_roundw
              case rel => exact ⟨k + 1, v, by omega, by go_num, by rw [hv2], HN⟩
              case measure => simp [intOf]; omega
            · have HN : Hid (hf.bound l (k + 1) ∧ x = 1099511627776 - (hf.sumTo l (k + 1) : Int)) := Lib.hid ⟨hb1, by
                rw [hf.sumTo_succ, if_neg h3]; exact HJ.out.2⟩
              clear HJ hb1 e b1
              generalize l.getD k 0 = y at *
              go_wp2
              go_roundw
              case rel => exact ⟨k + 1, x, by omega, by go_num, rfl, HN⟩
              case measure => simp [intOf]; omega
      · have hkl : k = l.length := by omega
        subst hkl
        have e := HJ.out.2
        by_cases h2 : hf.sumTo l l.length ≤ 1099511627776
        · have hF : Hid (hf.may l = true) := Lib.hid (hf.may_iff.2 ((hf.fits_iff l).2 ⟨h64, HJ.out.1, h2⟩))
          have h2' : 0 ≤ x := by omega
          clear HJ e
          go_wp2
          go_ret
          rw [hF.out]; exact ⟨rfl, rfl⟩
        · have hF : Hid (hf.may l = false) := Lib.hid (by
            cases hm : hf.may l
            · rfl
            · exact absurd ((hf.fits_iff l).1 (hf.may_iff.1 hm)).2.2 h2)
          have h2' : ¬ (0 ≤ x) := by omega
          clear HJ e
          go_wp2
          go_ret
          rw [hF.out]; exact ⟨rfl, rfl⟩
  · have hF : Hid (hf.may l = false) := Lib.hid (by
      cases hm : hf.may l
      · rfl
      · exact absurd ((hf.fits_iff l).1 (hf.may_iff.1 hm)).1 h64)
    have h64' : ¬ ((l.length : Int) ≤ 64) := by omega
    go_enter Try.func23, Try.ntmps23
    go_wp2
    go_ret
    rw [hF.out]; exact ⟨rfl, rfl⟩
end Go.Proofs.Ytbklccknohmibaa
