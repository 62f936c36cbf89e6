/- Package huff: order. No condition. -/
import Derived.Test.YtkbmpppendelcaaHuff1
import Derived.Test.YtkbmpppendelcaaSort6
import Derived.Test.YtkbmpppendelcaaPrB
import Derived.Deep.DeepCutAuto
namespace Go.Proofs.Ytkbmpppendelcaa
open Go.RowKit
set_option linter.unusedSimpArgs false

theorem elemInt : ElemT Try.prog 29 3 1 8 := ElemT.of Try.underlying29 (z := .int .i64 0) (by kernel_rfl) rfl (by decide)

/-- what order answers -/
def OrdPost (l : List Int) (w : World) (e : Ending) (w' : World) : Prop := ∃ (M : List Int) (A' : Option Addr) (n c' : Nat), e = .returned (.slice A' n c') ∧ M.Perm (hf.syms l) ∧ so.Srt (hf.len l) M ∧ Own w' w.heap.size 3 1 A' n c' (M.map intv) ∧ Below w.heap.size w w'

theorem order_cmpOk (l : List Int) (A : Option Addr) (c : Nat) (w wr : World) (hl : SlRep Rep.int w (· < w.heap.size) l A c) (hb : Below w.heap.size w wr) (g Bx : Nat) (hx : BlkA wr Bx 29 #[.slice A l.length c]) (hg : g ≠ Bx) (hgb : w.heap.size ≤ g) : CmpOk wr g Bx (hf.len l) (fun x => ∃ k : Nat, k < l.length ∧ x = k) := by
  rintro wx hs a b ⟨i, hi, rfl⟩ ⟨j, hj, rfl⟩
  have h2 : Below w.heap.size w wx := hb.trans (hs.below hb.size (fun k hk => by rw [hk]; exact hgb))
  rw [hf.len_nat, hf.len_nat]
  exact order_cmp l A c Bx i j hi hj wx (by rw [(hx.stays hs (fun h => hg h.symm)).get]; rfl) _ (hl.below h2)

set_option maxRecDepth 100000 in
set_option maxHeartbeats 1000000 in
theorem huff_order (l : List Int) (A : Option Addr) (c : Nat) (w : World) (hl : SlRep Rep.int w (· < w.heap.size) l A c) (hn : l.length ≤ 64) :
    Calls Try.prog 33 #[.slice A l.length c] w (OrdPost l w) := by
  have HL := Lib.hid hl
  clear hl
  go_enter Try.func33, Try.ntmps33
  go_wp2
  go_loopw [3, 8] (fun out i wr => ∃ (k : Nat) (A' : Option Addr) (n c' : Nat), k ≤ l.length ∧ n ≤ k ∧ i = .int .i64 k ∧ out = .slice A' n c' ∧ Hid (Own wr w.heap.size 3 1 A' n c' ((hf.symsTo l k).map intv) ∧ BlkA wr w.heap.size 29 #[.slice A l.length c] ∧ Below w.heap.size w wr ∧ (0 < n ∨ n = 0 ∧ A' = none ∧ c' = 0))) (fun _ i _ => l.length - (intOf i).toNat)
  case atStart => exact ⟨0, none, 0, 0, by omega, by omega, rfl, rfl, Lib.hid ⟨Own.nil _ _ _ _, BlkA.new _ _ _, (by repeat (first | (with_reducible exact Below.refl _ _) | (with_reducible assumption) | (with_reducible refine bset ?_ ?_ _) | (with_reducible refine balloc ?_ _) | (with_reducible refine Below.drew ?_) | (with_reducible refine bdrewN ?_ _) | (with_reducible refine bnext ?_ (by with_reducible assumption)) | exact Nat.le_refl _ | (simp; done) | omega | (simp; omega))), (.inr ⟨rfl, rfl, rfl⟩)⟩⟩
  case round =>
    obtain ⟨k, A', n, c', hk, hnk, rfl, rfl, HJ⟩ := hrel
    rename World => wr
    obtain ⟨hO, hX, hB, hz⟩ := HJ.out
    have hsz := hB.size
    by_cases hlt : k < l.length
    · obtain ⟨b, o, rfl, _, hc1⟩ := int_at (HL.out.below hB) hlt
      have hlt' : (k : Int) < (l.length : Int) := by omega
      by_cases h3 : 0 < l.getD k 0
      · have HS : Hid ((hf.symsTo l (k + 1)).map intv = (hf.symsTo l k).map intv ++ [.int .i64 k]) := Lib.hid (by rw [hf.symsTo_succ, if_pos h3, List.map_append]; rfl)
        generalize l.getD k 0 = y at *
        have HO := Lib.hid hO
        have HX := Lib.hid hX
        clear HJ hO hX
        go_wp2_with (at_builtin; refine wp_app _ rfl _ _ _ rfl elemInt w.heap.size A' _ c' _ rfl (HO.out.alloc _) _ 1 1 [.int .i64 k] rfl rfl (Cells.newAt _ _ _ (by simp)) (by simp [Value.oneCell']) (by omega) (by unfold maxLen; omega) (by simp; omega) ?_; intro A2 c2 w2 hO2 hg2; have HO3 := Lib.hid hO2; have HX2 : Hid (BlkA w2 w.heap.size 29 #[.slice (some ⟨b, o, none⟩) l.length c]) := Lib.hid ((HX.out.alloc _).kept hg2.grown (HX.out.apart HO.out (by decide))); clear hO2)
        go_roundw
        case rel => exact ⟨k + 1, A2, n + 1, c2, by omega, by omega, by go_num, rfl, Lib.hid ⟨by rw [HS.out]; exact HO3.out, HX2.out, Grew.step (balloc hB _) hg2 (fun g hg => (HO.out.lt g hg).1), .inl (by omega)⟩⟩
        case measure => simp [intOf]; omega
      · have HS : Hid (hf.symsTo l (k + 1) = hf.symsTo l k) := Lib.hid (by rw [hf.symsTo_succ, if_neg h3, List.append_nil])
        generalize l.getD k 0 = y at *
        clear hO hX
        go_wp2
        go_roundw
        case rel => exact ⟨k + 1, A', n, c', by omega, by omega, by go_num, rfl, by rw [HS.out]; exact HJ⟩
        case measure => simp [intOf]; omega
    · obtain rfl : k = l.length := by omega
      have hlt' : ¬ ((l.length : Int) < (l.length : Int)) := by omega
      rw [hf.symsTo_end] at hO
      rcases hz with hz | ⟨rfl, rfl, rfl⟩
      · obtain ⟨g, rfl, hg1, hg2⟩ := Own.some hO (by have := hO.len; omega)
        have hgx : g ≠ w.heap.size := fun e => hX.apart hO (by decide) (by rw [← e]; rfl)
        have HSS := Lib.hid (so_SortStable (hf.len l) _ (hf.syms l) (hf.syms_rising l) (fun x hx => by obtain ⟨k, h1, _, h2⟩ := hf.mem_syms.1 hx; exact ⟨k, h1, h2⟩) w.heap.size g n c' w.heap.size wr hO (by omega) (order_cmpOk l A c w wr HL.out hB g w.heap.size hX hgx hg1))
        clear hO hX HL HJ
        unfold so.cv at HSS
        go_wp2_with (go_at_call 35; refine HSS.out.mono ?_; rintro e w2 ⟨M, hM1, hM2, rfl, ho2, hs2⟩; have HE : Hid (OrdPost l w (.returned (.slice (some ⟨g, 0, none⟩) n c')) w2) := Lib.hid ⟨M, _, n, c', rfl, hM1, hM2, by rw [List.nil_append, List.append_nil] at ho2; exact ho2, hB.trans (hs2.below hB.size (fun k hk => by rw [hk]; exact hg1))⟩; clear hM1 hM2 ho2 hs2)
        go_ret
        exact HE.out
      · have hM : hf.syms l = [] := by
          have h0 := hO.len
          rw [List.length_map] at h0
          exact List.eq_nil_of_length_eq_zero (by omega)
        have HE : Hid (OrdPost l w (.returned (.slice none 0 0)) wr) := Lib.hid ⟨[], none, 0, 0, rfl, by rw [hM], List.Pairwise.nil, Own.nil _ _ _ _, hB⟩
        clear hO hX HL HJ hM
        go_wp2_with (go_at_call 35; refine (so_SortStable_nil _ _ _).mono ?_; rintro e w2 ⟨rfl, rfl⟩)
        go_ret
        exact HE.out
end Go.Proofs.Ytkbmpppendelcaa
