/- The walk of the law HuffEncodes. No condition. -/
import Derived.Test.YtbklccknohmibaaHuffE2
import Derived.Test.YtbklccknohmibaaHuff6
import Derived.Test.YtbklccknohmibaaLists
namespace Go.Proofs.Ytbklccknohmibaa
open Go.RowKit
set_option linter.unusedSimpArgs false

theorem bulk_int (l : List Int) : (Rep.slice Rep.int).bulk l = l.length + 1 := by
  simp only [Rep.slice, Rep.int]
  congr 1
  induction l with
  | nil => rfl
  | cons x r ih => simp [ih]; omega
def u8s (L : List Nat) : List UInt8 := L.map UInt8.ofNat
theorem u8s_cells {L : List Nat} (h : ∀ x ∈ L, x ≤ 255) : L.map bytev = (u8s L).map fun b => Value.int .u8 (b.toNat : Int) := by
  unfold u8s
  rw [List.map_map]
  apply List.map_congr_left
  intro x hx
  have := h x hx
  show Value.int .u8 (x : Int) = Value.int .u8 ((UInt8.ofNat x).toNat : Int)
  rw [UInt8.toNat_ofNat']
  congr 2
  omega
theorem pack_le {B : List Nat} (h : hf.Bits B) : ∀ x ∈ hf.pack B, x ≤ 255 := by
  intro x hx
  unfold hf.pack hf.packN at hx
  rw [List.mem_map] at hx
  obtain ⟨i, _, rfl⟩ := hx
  exact hf.byteAt_le h i
theorem enc_rep {w : World} {B c : Nat} {A : Option Addr} {l S : List Int} (h : Own w B 5 1 A (hf.pack (hf.allBits l S)).length c ((hf.pack (hf.allBits l S)).map bytev)) : SlRep Rep.u8 w (fun k => B ≤ k ∧ k < w.heap.size) (u8s (hf.pack (hf.allBits l S))) A c :=
  (Own.u8 (by rw [u8s_cells (pack_le (hf.allBits_bits l S))] at h; exact h)).2

set_option maxHeartbeats 1000000 in
theorem lawHuffEncodes_walk {w : World} (l : List Int) (A0 : Option Addr) (c0 : Nat) (h0 : SlRep Rep.int w (· < w.heap.size) l A0 c0) (hk0 : AllOk 8 IntOk l) (S : List Int) (A1 : Option Addr) (c1 : Nat) (h1 : SlRep Rep.int w (· < w.heap.size) S A1 c1) (_ : AllOk 8 IntOk S) (hbulk : (Rep.slice Rep.int).bulk l + (Rep.slice Rep.int).bulk S ≤ 1048576) :
    Calls Try.prog 5 #[.slice A0 l.length c0, .slice A1 S.length c1] w fun e w' => e = .returned (.bool true) ∧ Below w.heap.size w w' := by
  have hn : l.length ≤ 9223372036854775807 := by have := hk0.2; omega
  have hS : S.length ≤ 1048576 := by rw [bulk_int, bulk_int] at hbulk; omega
  clear hbulk
  have HX := Lib.hid (huff_Encode l S A0 A1 c0 c1 w h0 h1 hn hS)
  have HY : Hid (∀ w1, Below w.heap.size w w1 → Calls Try.prog 19 #[.slice A0 l.length c0, .slice A1 S.length c1] w1 (EncPost l S w1)) := Lib.hid (fun w1 hb => ref_HuffEncoded l S A0 A1 c0 c1 w1 (h0.next hb) (h1.next hb) hn hS)
  clear h0 h1 hk0
  by_cases hm : hf.may l = true
  · by_cases hs : ∀ s ∈ S, hf.has l s
    · have e0 : ∀ w e w', EncPost l S w e w' → ∃ (A' : Option Addr) (c' : Nat), e = .returned (.tuple #[.slice A' (hf.pack (hf.allBits l S)).length c', .int .i64 0]) ∧ Own w' w.heap.size 5 1 A' (hf.pack (hf.allBits l S)).length c' ((hf.pack (hf.allBits l S)).map bytev) ∧ Below w.heap.size w w' := fun w e w' h => by
        obtain ⟨A', c', h1, h2⟩ := h.2.1 hm hs
        exact ⟨A', c', h1, h2, h.1⟩
      have HLN : Hid ((u8s (hf.pack (hf.allBits l S))).length = (hf.pack (hf.allBits l S)).length) := Lib.hid (by unfold u8s; simp)
      obtain ⟨n, hnn⟩ : ∃ n, n = (hf.pack (hf.allBits l S)).length := ⟨_, rfl⟩
      have HNN := Lib.hid hnn
      rw [← hnn] at e0 HLN
      clear hnn
      go_enter Try.func5, Try.ntmps5
      go_wp2_with (go_at_call 12; refine HX.out.mono ?_; intro e w1 h; obtain ⟨A2, c2, rfl, o1, b1⟩ := e0 _ _ _ h; clear h; have O1 := Lib.hid o1; have B1 := Lib.hid b1; clear o1 b1)
      go_wp2_with (go_at_call 19; refine (HY.out w1 B1.out).mono ?_; intro e w2 h; obtain ⟨A3, c3, rfl, o2, b2⟩ := e0 _ _ _ h; clear h; have O2 := Lib.hid o2; have B2 := Lib.hid b2; clear o2 b2)
      have R := Lib.hid (law_sameBytes (u8s (hf.pack (hf.allBits l S))) A2 A3 c2 c3 _ _ w2 (enc_rep (by have h := Own.below O1.out B2.out (fun k hk => (Own.lt O1.out k hk).2); rw [← HNN.out]; exact h)) (enc_rep (by rw [← HNN.out]; exact O2.out)) (by have := (Own.cap O2.out); have h2 := HLN.out; unfold maxLen at this; omega))
      rw [HLN.out] at R
      go_wp2_with (go_at_call 20; refine R.out.mono ?_; rintro e w3 ⟨rfl, b3⟩; have B3 := Lib.hid b3; clear b3)
      go_ret
      exact ⟨rfl, (B1.out.trans (B2.out.mono B1.out.size)).trans (B3.out.mono (Nat.le_trans B1.out.size B2.out.size))⟩
    · have e0 : ∀ w e w', EncPost l S w e w' → e = .returned (.tuple #[.slice none 0 0, .int .i64 7]) ∧ Below w.heap.size w w' := fun w e w' h => ⟨h.2.2.1 hm hs, h.1⟩
      go_enter Try.func5, Try.ntmps5
      go_wp2_with (go_at_call 12; refine HX.out.mono ?_; intro e w1 h; obtain ⟨rfl, b1⟩ := e0 _ _ _ h; clear h; have B1 := Lib.hid b1; clear b1)
      go_wp2_with (go_at_call 19; refine (HY.out w1 B1.out).mono ?_; intro e w2 h; obtain ⟨rfl, b2⟩ := e0 _ _ _ h; clear h; have B2 := Lib.hid b2; clear b2)
      have R := Lib.hid (law_sameBytes [] none none 0 0 (fun _ => True) (fun _ => True) w2 (nil_rep _ _ _) (nil_rep _ _ _) (by decide))
      go_wp2_with (go_at_call 20; refine R.out.mono ?_; rintro e w3 ⟨rfl, b3⟩; have B3 := Lib.hid b3; clear b3)
      go_ret
      exact ⟨rfl, (B1.out.trans (B2.out.mono B1.out.size)).trans (B3.out.mono (Nat.le_trans B1.out.size B2.out.size))⟩
  · have e0 : ∀ w e w', EncPost l S w e w' → e = .returned (.tuple #[.slice none 0 0, .int .i64 4]) ∧ Below w.heap.size w w' := fun w e w' h => ⟨h.2.2.2 hm, h.1⟩
    go_enter Try.func5, Try.ntmps5
    go_wp2_with (go_at_call 12; refine HX.out.mono ?_; intro e w1 h; obtain ⟨rfl, b1⟩ := e0 _ _ _ h; clear h; have B1 := Lib.hid b1; clear b1)
    go_wp2_with (go_at_call 19; refine (HY.out w1 B1.out).mono ?_; intro e w2 h; obtain ⟨rfl, b2⟩ := e0 _ _ _ h; clear h; have B2 := Lib.hid b2; clear b2)
    have R := Lib.hid (law_sameBytes [] none none 0 0 (fun _ => True) (fun _ => True) w2 (nil_rep _ _ _) (nil_rep _ _ _) (by decide))
    go_wp2_with (go_at_call 20; refine R.out.mono ?_; rintro e w3 ⟨rfl, b3⟩; have B3 := Lib.hid b3; clear b3)
    go_ret
    exact ⟨rfl, (B1.out.trans (B2.out.mono B1.out.size)).trans (B3.out.mono (Nat.le_trans B1.out.size B2.out.size))⟩
end Go.Proofs.Ytbklccknohmibaa
