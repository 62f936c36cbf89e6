/- The walk of the law HuffDecodes. No condition. -/
import Derived.Test.YtbklccknohmibaaHuffD4
import Derived.Test.YtbklccknohmibaaHuff6
namespace Go.Proofs.Ytbklccknohmibaa
open Go.RowKit
set_option linter.unusedSimpArgs false

set_option maxHeartbeats 2000000 in
theorem lawHuffDecodes_walk {w : World} (l : List Int) (A0 : Option Addr) (c0 : Nat) (h0 : SlRep Rep.int w (· < w.heap.size) l A0 c0) (hk0 : AllOk 8 IntOk l) (b : List UInt8) (A1 : Option Addr) (c1 : Nat) (h1 : SlRep Rep.u8 w (· < w.heap.size) b A1 c1) (hk1 : AllOk 1 AnyOk b) (count : Int) (_ : IntOk count) :
    Calls Try.prog 6 #[.slice A0 l.length c0, .slice A1 b.length c1, .int .i64 count] w fun e w' => e = .returned (.bool true) ∧ Below w.heap.size w w' := by
  have hn : l.length ≤ 9223372036854775807 := by have := hk0.2; omega
  have hbl : b.length ≤ 140737488351232 := by have := hk1.2; omega
  have HX := Lib.hid (huff_Decode l A0 c0 b A1 c1 count w h0 h1 hn hbl)
  have HY : Hid (∀ w1, Below w.heap.size w w1 → Calls Try.prog 21 #[.slice A0 l.length c0, .slice A1 b.length c1, .int .i64 count] w1 (DecPost l b count w1)) := Lib.hid (fun w1 hb => ref_HuffDecoded l A0 c0 b A1 c1 count w1 (h0.next hb) (h1.next hb) hn hbl)
  clear h0 h1 hk0 hk1
  by_cases hok : hf.may l = true ∧ ∃ k : Nat, count = k ∧ k ≤ 4096 ∧ (hf.decTo l b k).2.2 = 0
  · obtain ⟨hm, k, hk, hk4, hz⟩ := hok
    obtain ⟨L, hL⟩ : ∃ L, (hf.decTo l b k).1 = L := ⟨_, rfl⟩
    have e0 : ∀ w e w', DecPost l b count w e w' → ∃ (A' : Option Addr) (n c' : Nat), e = .returned (.tuple #[.slice A' n c', .int .i64 0]) ∧ Own w' w.heap.size 3 1 A' n c' (L.map intv) ∧ Below w.heap.size w w' := fun w e w' h => by
      obtain ⟨A', n, c', h1, h2⟩ := h.2.2.2.2 hm k hk hk4 hz
      rw [hL] at h2
      exact ⟨A', n, c', h1, h2, h.1⟩
    clear hm hk hk4 hz hL
    go_enter Try.func6, Try.ntmps6
    go_wp2_with (go_at_call 13; refine HX.out.mono ?_; intro e w1 h; obtain ⟨A2, n2, c2, rfl, o1, b1⟩ := e0 _ _ _ h; clear h; have O1 := Lib.hid o1; have B1 := Lib.hid b1; clear o1 b1)
    have hn2 : n2 = L.length := (Own.ints O1.out).1
    subst hn2
    go_wp2_with (go_at_call 21; refine (HY.out w1 B1.out).mono ?_; intro e w2 h; obtain ⟨A3, n3, c3, rfl, o2, b2⟩ := e0 _ _ _ h; clear h; have O2 := Lib.hid o2; have B2 := Lib.hid b2; clear o2 b2)
    have hn3 : n3 = L.length := (Own.ints O2.out).1
    subst hn3
    have R := Lib.hid (law_sameInts L A2 A3 c2 c3 _ _ w2 (Own.ints (Own.below O1.out B2.out (fun k hk => (Own.lt O1.out k hk).2))).2 (Own.ints O2.out).2 (by have := Own.cap O2.out; unfold maxLen at this; omega))
    go_wp2_with (go_at_call 18; refine R.out.mono ?_; rintro e w3 ⟨rfl, b3⟩; have B3 := Lib.hid b3; clear b3)
    go_ret
    exact ⟨rfl, (B1.out.trans (B2.out.mono B1.out.size)).trans (B3.out.mono (Nat.le_trans B1.out.size B2.out.size))⟩
  · have e0 : ∃ er : Int, ∀ w e w', DecPost l b count w e w' → e = .returned (.tuple #[.slice none 0 0, .int .i64 er]) ∧ Below w.heap.size w w' := by
      by_cases hm : hf.may l = true
      · by_cases hr : 0 ≤ count ∧ count ≤ 4096
        · have hk : count = (count.toNat : Nat) := by omega
          have hne : (hf.decTo l b count.toNat).2.2 ≠ 0 := fun h => hok ⟨hm, count.toNat, hk, by omega, h⟩
          exact ⟨(hf.decTo l b count.toNat).2.2, fun w e w' h => ⟨h.2.2.2.1 hm count.toNat hk (by omega) hne, h.1⟩⟩
        · exact ⟨2, fun w e w' h => ⟨h.2.2.1 hm hr, h.1⟩⟩
      · exact ⟨4, fun w e w' h => ⟨h.2.1 hm, h.1⟩⟩
    obtain ⟨er, e0⟩ := e0
    clear hok
    go_enter Try.func6, Try.ntmps6
    go_wp2_with (go_at_call 13; refine HX.out.mono ?_; intro e w1 h; obtain ⟨rfl, b1⟩ := e0 _ _ _ h; clear h; have B1 := Lib.hid b1; clear b1)
    go_wp2_with (go_at_call 21; refine (HY.out w1 B1.out).mono ?_; intro e w2 h; obtain ⟨rfl, b2⟩ := e0 _ _ _ h; clear h; have B2 := Lib.hid b2; clear b2)
    have R := Lib.hid (law_sameInts [] none none 0 0 (fun _ => True) (fun _ => True) w2 (nil_rep _ _ _) (nil_rep _ _ _) (by decide))
    go_wp2_with (go_at_call 18; refine R.out.mono ?_; rintro e w3 ⟨rfl, b3⟩; have B3 := Lib.hid b3; clear b3)
    go_ret
    exact ⟨rfl, (B1.out.trans (B2.out.mono B1.out.size)).trans (B3.out.mono (Nat.le_trans B1.out.size B2.out.size))⟩
end Go.Proofs.Ytbklccknohmibaa
