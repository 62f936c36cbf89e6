/- The law MsgAskeds, walked. No condition. -/
import Derived.Test.YtcpbgiikfabaaaaMsgZ
namespace Go.Proofs.Ytcpbgiikfabaaaa
open Go.RowKit

set_option maxHeartbeats 2000000 in
theorem law_sameRequest (r : Request) (A A' : Option Addr) (c c' : Nat) (w : World) (h1 : SlRep Rep.u8 w (· < w.heap.size) r.data A c) (h2 : SlRep Rep.u8 w (· < w.heap.size) r.data A' c') :
    Calls Try.prog 12 #[.agg (mg.vals r A c).toArray, .agg (mg.vals r A' c').toArray] w fun e w' => e = .returned (.bool true) ∧ Below w.heap.size w w' := by
  have hm : r.data.length ≤ 9223372036854775807 := by have := h1.1; have := h1.2.1; unfold maxLen at this; omega
  have K := Lib.hid (fun w' (hb : Below w.heap.size w w') => law_sameBytes r.data A A' c c' _ _ w' (SlRep.next (w := w) (w' := w') h1 hb) (SlRep.next (w := w) (w' := w') h2 hb) hm)
  clear h1 h2
  unfold mg.vals
  go_enter Try.func12, Try.ntmps12
  go_wp2_with fail
  refine (K.out _ (by exact balloc (balloc (bself w) _) _)).mono ?_
  rintro e w3 ⟨rfl, hb3⟩
  have HB3 := Lib.hid hb3
  clear hb3
  go_wp2_with fail
  go_ret
  exact ⟨rfl, bnext (balloc (balloc (bself w) _) _) HB3.out⟩

set_option maxHeartbeats 2000000 in
theorem lawMsgAskeds_walk {w : World} (b : List UInt8) (A : Option Addr) (c : Nat) (h : SlRep Rep.u8 w (· < w.heap.size) b A c) (hok : AllOk 1 AnyOk b) :
    Calls Try.prog 4 #[.slice A b.length c] w fun e w' => e = .returned (.bool true) ∧ Below w.heap.size w w' := by
  have hn : b.length ≤ 140737488351232 := by have := hok.2; omega
  have K1 := Lib.hid (msg_Asked_res b A c w h hn)
  have K2 := Lib.hid (fun w' (hb : Below w.heap.size w w') => ref_MsgAsked_res b A c w' (SlRep.next (w := w) (w' := w') h hb))
  rw [mg.asked_eq] at K2
  clear h hok hn
  go_enter Try.func4, Try.ntmps4
  go_wp2_with fail
  refine K1.out.mono ?_
  obtain ⟨r, HRE⟩ : ∃ r, Hid (exR (mg.asked b) = r) := ⟨_, Lib.hid rfl⟩
  obtain ⟨er, HER⟩ : ∃ er, Hid (exC (mg.asked b) = er) := ⟨_, Lib.hid rfl⟩
  rintro e w1 ⟨A1, c1, rfl, hd1, hb1⟩
  rw [HRE.out] at hd1 ⊢
  rw [HER.out]
  have HB1 := Lib.hid hb1
  have HD1 := Lib.hid hd1
  clear hd1 hb1 K1
  have HA1 := Lib.hid (mg.At.new w1 r A1 c1)
  unfold mg.vals
  go_wp2_with fail
  refine (K2.out _ (balloc HB1.out _)).mono ?_
  rintro e w2 ⟨A2, c2, rfl, hd2, hb2⟩
  rw [HRE.out] at hd2 ⊢
  rw [HER.out]
  have HA2 := Lib.hid (HA1.out.next hb2)
  have HB2 := Lib.hid (bnext (balloc HB1.out _) hb2)
  have hz2 : w1.heap.size < w2.heap.size := by have := hb2.size; simp at this; omega
  have HD2 := Lib.hid (hd2.keep (S' := (· < w2.heap.size)) fun k hk => ⟨hk.2, rfl⟩)
  have HD12 : Hid (SlRep Rep.u8 w2 (· < w2.heap.size) r.data A1 c1) := Lib.hid (HD1.out.keep fun k hk => ⟨by omega, (hb2.block k (by simp; omega)).trans ((balloc (bself w1) _).block k hk.2)⟩)
  clear hd2 hb2 K2 HA1 HD1 HB1
  have y0 := HA2.out.cell 0
  have y1 := HA2.out.cell 1
  have y2 := HA2.out.cell 2
  have y3 := HA2.out.cell 3
  have y4 := HA2.out.cell 4
  have y5 := HA2.out.cell 5
  have y6 := HA2.out.cell 6
  have y7 := HA2.out.cell 7
  have y8 := HA2.out.cell 8
  simp only [mg.vals, List.getElem?_cons_zero, List.getElem?_cons_succ] at y0 y1 y2 y3 y4 y5 y6 y7 y8
  have K3 := Lib.hid (fun w' (hb : Below w2.heap.size w2 w') => law_sameRequest r A1 A2 c1 c2 w' (HD12.out.next hb) (HD2.out.next hb))
  unfold mg.vals at K3
  unfold mg.vals
  go_wp2_with (first
    | (go_at_call 12; refine (K3.out _ (balloc (bself w2) _)).mono ?_; rintro e w3 ⟨rfl, hb3⟩; have HB3 := Lib.hid hb3; clear hb3)
    | fail)
  go_ret
  exact ⟨rfl, bnext (balloc HB2.out _) HB3.out⟩
end Go.Proofs.Ytcpbgiikfabaaaa
