/- The law MsgAsks, walked. No condition. -/
import Derived.Test.YtcpbgiikfabaaaaMsg12
namespace Go.Proofs.Ytcpbgiikfabaaaa
open Go.RowKit

set_option maxHeartbeats 1000000 in
theorem lawMsgAsks_walk {w : World} (r : Request) (hok : Request.ok r) (A : Option Addr) (c : Nat) (hd : SlRep Rep.u8 w (· < w.heap.size) r.data A c) :
    Calls Try.prog 3 #[.agg #[.int .i64 r.kind, .int .i64 r.mark, .string r.path, .string r.to, .int .i64 r.how, .int .i64 r.handle, .int .i64 r.at_, .int .i64 r.count, .slice A r.data.length c]] w fun e w' => e = .returned (.bool true) ∧ Below w.heap.size w w' := by
  have hr : mg.Ok r := ⟨hok.1, hok.2.1, hok.2.2.2.2.1, hok.2.2.2.2.2.1, hok.2.2.2.2.2.2.1, hok.2.2.2.2.2.2.2.1⟩
  have HN := Lib.hid (mg.At.new w r A c)
  have K1 := Lib.hid (fun w' (hb : Below w.heap.size w w') => msg_Ask_res r A c w' hr (SlRep.next (w := w) (w' := w') hd hb))
  have K2 := Lib.hid (fun w' (hb : Below w.heap.size w w') => ref_MsgAsk r A c w' (SlRep.next (w := w) (w' := w') hd hb))
  clear hd hok hr
  go_enter Try.func3, Try.ntmps3
  go_wp2_with (first
    | (go_at_call 7; refine (K1.out _ (balloc (bself w) _)).mono ?_; rintro e w1 ⟨A2, c2, rfl, ho1, hb1⟩; have HO1 := Lib.hid ho1; have HB1 := Lib.hid hb1; have ha := HN.out.next hb1; have y0 := ha.cell 0; have y1 := ha.cell 1; have y2 := ha.cell 2; have y3 := ha.cell 3; have y4 := ha.cell 4; have y5 := ha.cell 5; have y6 := ha.cell 6; have y7 := ha.cell 7; have y8 := ha.cell 8; simp only [mg.vals, List.getElem?_cons_zero, List.getElem?_cons_succ] at y0 y1 y2 y3 y4 y5 y6 y7 y8; clear ha ho1 hb1)
    | (go_at_call 8; refine (K2.out _ (balloc (bself w) _ |>.trans (HB1.out.mono (by simp)))).mono ?_; rintro e w2 ⟨A3, c3, rfl, ho2, hb2⟩; have HR2 := Lib.hid ho2.u8.2; have HR1 := Lib.hid (HO1.out.next hb2).u8.2; have hm : (exL (mg.ask r)).length ≤ 9223372036854775807 := (by have := ho2.cap; unfold maxLen at this; omega); have HB2 := Lib.hid hb2; clear ho2 hb2 y0 y1 y2 y3 y4 y5 y6 y7 y8)
    | (go_at_call 9; refine (law_sameBytes _ _ _ _ _ _ _ _ HR1.out HR2.out hm).mono ?_; rintro e w3 ⟨rfl, hb3⟩; have HB3 := Lib.hid hb3; clear hb3)
    | fail)
  go_ret
  exact ⟨rfl, bnext (bnext (balloc (bself w) _ |>.trans (HB1.out.mono (by simp))) HB2.out) HB3.out⟩
end Go.Proofs.Ytcpbgiikfabaaaa
