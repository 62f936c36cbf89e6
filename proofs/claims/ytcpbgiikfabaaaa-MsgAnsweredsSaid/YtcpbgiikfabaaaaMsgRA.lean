/- The law MsgAnswereds, walked. No condition. -/
import Derived.Test.YtcpbgiikfabaaaaMsgR9
namespace Go.Proofs.Ytcpbgiikfabaaaa
open Go.RowKit

set_option maxHeartbeats 2000000 in
theorem law_sameReply (r : Reply) (Ad Ad' : Option Addr) (cd cd' : Nat) (An An' : Option Addr) (cn cn' : Nat) (w : World) (h1 : SlRep Rep.u8 w (· < w.heap.size) r.data Ad cd) (h2 : SlRep Rep.u8 w (· < w.heap.size) r.data Ad' cd') (k1 : SlRep Rep.str w (· < w.heap.size) r.names An cn) (k2 : SlRep Rep.str w (· < w.heap.size) r.names An' cn') :
    Calls Try.prog 17 #[.agg (mr.vals r Ad cd An cn).toArray, .agg (mr.vals r Ad' cd' An' cn').toArray] w fun e w' => e = .returned (.bool true) ∧ Below w.heap.size w w' := by
  have hm : r.data.length ≤ 9223372036854775807 := by have := h1.1; have := h1.2.1; unfold maxLen at this; omega
  have hm2 : r.names.length ≤ 9223372036854775807 := by have := k1.1; have := k1.2.1; unfold maxLen at this; omega
  have K := Lib.hid (fun w' (hb : Below w.heap.size w w') => law_sameBytes r.data Ad Ad' cd cd' _ _ w' (SlRep.next (w := w) (w' := w') h1 hb) (SlRep.next (w := w) (w' := w') h2 hb) hm)
  have K2 := Lib.hid (fun w' (hb : Below w.heap.size w w') => law_sameTexts r.names An An' cn cn' _ _ w' (SlRep.next (w := w) (w' := w') k1 hb) (SlRep.next (w := w) (w' := w') k2 hb) hm2)
  have HA := Lib.hid (mr.At.new w r Ad cd An cn)
  have HA2 := Lib.hid (mr.At.new (w.alloc (.cells (mr.vals r Ad cd An cn).toArray 36)) r Ad' cd' An' cn')
  clear h1 h2 k1 k2
  unfold mr.vals
  go_enter Try.func17, Try.ntmps17
  go_wp2_with fail
  refine (K.out _ (by exact balloc (balloc (bself w) _) _)).mono ?_
  rintro e w3 ⟨rfl, hb3⟩
  have HB3 := Lib.hid (bnext (balloc (balloc (bself w) _) _) hb3)
  have a6 := ((HA.out.next (balloc (bself _) _)).next hb3).cell 6
  have b6 := (HA2.out.next hb3).cell 6
  simp only [mr.vals, List.getElem?_cons_zero, List.getElem?_cons_succ, World.size_alloc] at a6 b6
  clear hb3
  go_wp2_with fail
  refine (K2.out _ (by exact HB3.out)).mono ?_
  rintro e w4 ⟨rfl, hb4⟩
  have HB4 := Lib.hid (bnext HB3.out hb4)
  clear hb4
  go_wp2_with fail
  go_ret
  exact ⟨rfl, HB4.out⟩

set_option maxHeartbeats 2000000 in
theorem lawMsgAnswereds_walk {w : World} (b : List UInt8) (A : Option Addr) (c : Nat) (h : SlRep Rep.u8 w (· < w.heap.size) b A c) (hok : AllOk 1 AnyOk b) :
    Calls Try.prog 6 #[.slice A b.length c] w fun e w' => e = .returned (.bool true) ∧ Below w.heap.size w w' := by
  have hn : b.length ≤ 140737488351232 := by have := hok.2; omega
  have K1 := Lib.hid (msg_Answered_res b A c w h hn)
  have K2 := Lib.hid (fun w' (hb : Below w.heap.size w w') => ref_MsgAnswered_res b A c w' (SlRep.next (w := w) (w' := w') h hb))
  rw [mr.answered_eq] at K2
  clear h hok hn
  go_enter Try.func6, Try.ntmps6
  go_wp2_with fail
  refine K1.out.mono ?_
  obtain ⟨r, HRE⟩ : ∃ r, Hid (exRp (mr.answered b) = r) := ⟨_, Lib.hid rfl⟩
  obtain ⟨er, HER⟩ : ∃ er, Hid (exC (mr.answered b) = er) := ⟨_, Lib.hid rfl⟩
  rintro e w1 ⟨A1, c1, D1, d1, rfl, hd1, hn1, hb1⟩
  rw [HRE.out] at hd1 hn1 ⊢
  rw [HER.out]
  have HB1 := Lib.hid hb1
  have HD1 := Lib.hid hd1
  have HN1 := Lib.hid hn1
  clear hd1 hn1 hb1 K1
  have HA1 := Lib.hid (mr.At.new w1 r A1 c1 D1 d1)
  unfold mr.vals
  go_wp2_with fail
  refine (K2.out _ (balloc HB1.out _)).mono ?_
  rintro e w2 ⟨A2, c2, D2, d2, rfl, hd2, hn2, hb2⟩
  rw [HRE.out] at hd2 hn2 ⊢
  rw [HER.out]
  have HA2 := Lib.hid (HA1.out.next hb2)
  have HB2 := Lib.hid (bnext (balloc HB1.out _) hb2)
  have hz2 : w1.heap.size < w2.heap.size := by have := hb2.size; simp at this; omega
  have HD2 := Lib.hid (hd2.keep (S' := (· < w2.heap.size)) fun k hk => ⟨hk.2, rfl⟩)
  have HN2 := Lib.hid (hn2.keep (S' := (· < w2.heap.size)) fun k hk => ⟨hk.2, rfl⟩)
  have HD12 : Hid (SlRep Rep.u8 w2 (· < w2.heap.size) r.data A1 c1) := Lib.hid (HD1.out.keep fun k hk => ⟨by omega, (hb2.block k (by simp; omega)).trans ((balloc (bself w1) _).block k hk.2)⟩)
  have HN12 : Hid (SlRep Rep.str w2 (· < w2.heap.size) r.names D1 d1) := Lib.hid (HN1.out.keep fun k hk => ⟨by omega, (hb2.block k (by simp; omega)).trans ((balloc (bself w1) _).block k hk.2)⟩)
  clear hd2 hn2 hb2 K2 HA1 HD1 HB1 HN1
  have y0 := HA2.out.cell 0
  have y1 := HA2.out.cell 1
  have y2 := HA2.out.cell 2
  have y3 := HA2.out.cell 3
  have y4 := HA2.out.cell 4
  have y5 := HA2.out.cell 5
  have y6 := HA2.out.cell 6
  simp only [mr.vals, List.getElem?_cons_zero, List.getElem?_cons_succ] at y0 y1 y2 y3 y4 y5 y6
  have K3 := Lib.hid (fun w' (hb : Below w2.heap.size w2 w') => law_sameReply r A1 A2 c1 c2 D1 D2 d1 d2 w' (HD12.out.next hb) (HD2.out.next hb) (HN12.out.next hb) (HN2.out.next hb))
  unfold mr.vals at K3
  unfold mr.vals
  go_wp2_with (first
    | (go_at_call 17; refine (K3.out _ (balloc (bself w2) _)).mono ?_; rintro e w3 ⟨rfl, hb3⟩; have HB3 := Lib.hid hb3; clear hb3)
    | fail)
  go_ret
  exact ⟨rfl, bnext (balloc HB2.out _) HB3.out⟩
end Go.Proofs.Ytcpbgiikfabaaaa
