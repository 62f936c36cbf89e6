/- The walk of the law HuffCodes. No condition. -/
import Derived.Test.YtbklccknohmibaaHuff5
namespace Go.Proofs.Ytbklccknohmibaa
open Go.RowKit
set_option linter.unusedSimpArgs false

theorem Own.ints {w : World} {B n c : Nat} {e : TypeId} {A : Option Addr} {xs : List Int} (h : Own w B e 1 A n c (xs.map intv)) : n = xs.length ∧ SlRep Rep.int w (fun k => B ≤ k ∧ k < w.heap.size) xs A c := by
  have h1 : xs.map intv = xs.flatMap (fun x => [Value.int .i64 x]) := by rw [List.map_eq_flatMap]; rfl
  exact Own.flat (R := Rep.int) (fun x => [Value.int .i64 x]) rfl (fun _ _ => rfl) (by decide) (by rw [← h1]; exact h)
theorem OI.rep {w : World} {B g n c : Nat} {xs : List Int} (h : OI w B g n c xs) : n = xs.length ∧ SlRep Rep.int w (fun k => B ≤ k ∧ k < w.heap.size) xs (some ⟨g, 0, none⟩) c := Own.ints h
/-- ints of bounds, answered -/
theorem nil_rep {α : Type} (R : Rep α) (w : World) (S : Nat → Prop) : SlRep R w S [] none 0 := ⟨Nat.le_refl _, by decide, .inl rfl⟩

set_option maxHeartbeats 1000000 in
theorem lawHuffCodes_walk {w : World} (l : List Int) (A : Option Addr) (c : Nat) (hl : SlRep Rep.int w (· < w.heap.size) l A c) (hok : AllOk 8 IntOk l) :
    Calls Try.prog 4 #[.slice A l.length c] w fun e w' => e = .returned (.bool true) ∧ Below w.heap.size w w' := by
  have hn : l.length ≤ 9223372036854775807 := by have := hok.2; omega
  have HL := Lib.hid hl
  have HX := Lib.hid (huff_Codes l A c w hl hn)
  have HY : Hid (∀ w1, Below w.heap.size w w1 → Calls Try.prog 17 #[.slice A l.length c] w1 (CodesPost l w1)) := Lib.hid (fun w1 h1 => ref_HuffCodes l A c w1 (hl.next h1) hn)
  clear hl hok
  by_cases hm : hf.may l = true
  · have hlen : (hf.codes l).length = l.length := hf.codes_len l
    have e0 : ∀ w e w', CodesPost l w e w' → ∃ g : Nat, e = .returned (.tuple #[.slice (some ⟨g, 0, none⟩) l.length l.length, .int .i64 0]) ∧ OI w' w.heap.size g l.length l.length (hf.codes l) ∧ Below w.heap.size w w' := fun w e w' h => by unfold CodesPost at h; rwa [if_pos hm] at h
    go_enter Try.func4, Try.ntmps4
    go_wp2_with (go_at_call 16; refine HX.out.mono ?_; intro e w1 h; obtain ⟨g1, rfl, o1, b1⟩ := e0 _ _ _ h; clear h; have O1 := Lib.hid o1; have B1 := Lib.hid b1; clear o1 b1)
    go_wp2_with (go_at_call 17; refine (HY.out w1 B1.out).mono ?_; intro e w2 h; obtain ⟨g2, rfl, o2, b2⟩ := e0 _ _ _ h; clear h; have O2 := Lib.hid o2; have B2 := Lib.hid b2; clear o2 b2)
    have R := Lib.hid (law_sameInts (hf.codes l) (some ⟨g1, 0, none⟩) (some ⟨g2, 0, none⟩) l.length l.length _ _ w2 (OI.rep (Own.below O1.out B2.out (fun k hk => (Own.lt O1.out k hk).2))).2 (OI.rep O2.out).2 (by omega))
    rw [hlen] at R
    go_wp2_with (go_at_call 18; refine R.out.mono ?_; rintro e w3 ⟨rfl, b3⟩; have B3 := Lib.hid b3; clear b3)
    go_ret
    exact ⟨rfl, (B1.out.trans (B2.out.mono B1.out.size)).trans (B3.out.mono (Nat.le_trans B1.out.size B2.out.size))⟩
  · have e0 : ∀ w e w', CodesPost l w e w' → e = .returned (.tuple #[.slice none 0 0, .int .i64 4]) ∧ Below w.heap.size w w' := fun w e w' h => by unfold CodesPost at h; rwa [if_neg hm] at h
    go_enter Try.func4, Try.ntmps4
    go_wp2_with (go_at_call 16; refine HX.out.mono ?_; intro e w1 h; obtain ⟨rfl, b1⟩ := e0 _ _ _ h; clear h; have B1 := Lib.hid b1; clear b1)
    go_wp2_with (go_at_call 17; refine (HY.out w1 B1.out).mono ?_; intro e w2 h; obtain ⟨rfl, b2⟩ := e0 _ _ _ h; clear h; have B2 := Lib.hid b2; clear b2)
    have R := Lib.hid (law_sameInts [] none none 0 0 (fun _ => True) (fun _ => True) w2 (nil_rep _ _ _) (nil_rep _ _ _) (by decide))
    go_wp2_with (go_at_call 18; refine R.out.mono ?_; rintro e w3 ⟨rfl, b3⟩; have B3 := Lib.hid b3; clear b3)
    go_ret
    exact ⟨rfl, (B1.out.trans (B2.out.mono B1.out.size)).trans (B3.out.mono (Nat.le_trans B1.out.size B2.out.size))⟩
end Go.Proofs.Ytbklccknohmibaa
