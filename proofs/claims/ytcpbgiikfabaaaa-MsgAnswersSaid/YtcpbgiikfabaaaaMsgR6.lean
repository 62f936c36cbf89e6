/- The law MsgAnswers, walked. No condition. -/
import Derived.Test.YtcpbgiikfabaaaaMsgR5
namespace Go.Proofs.Ytcpbgiikfabaaaa
open Go.RowKit

theorem mr.ok_of {r : Reply} (h : Reply.ok r) : mr.Ok r := ⟨h.1, h.2.1, h.2.2.1, h.2.2.2.1, h.2.2.2.2.1⟩
theorem mr.names_of {r : Reply} (h : Reply.ok r) : r.names.length ≤ 140737488351232 ∧ ∀ s ∈ r.names, s.size ≤ 140737488351232 := by
  have hn : AllOk 16 StrOk r.names := h.2.2.2.2.2.2
  exact ⟨by have := hn.2; omega, fun s hs => hn.1 s hs⟩
set_option maxHeartbeats 1000000 in
theorem lawMsgAnswers_walk {w : World} (r : Reply) (hok : Reply.ok r) (Ad : Option Addr) (cd : Nat) (hd : SlRep Rep.u8 w (· < w.heap.size) r.data Ad cd) (An : Option Addr) (cn : Nat) (hl : SlRep Rep.str w (· < w.heap.size) r.names An cn) :
    Calls Try.prog 5 #[.agg #[.int .i64 r.mark, .int .i64 r.code, .int .i64 r.handle, .int .i64 r.kind, .int .i64 r.size, .slice Ad r.data.length cd, .slice An r.names.length cn]] w fun e w' => e = .returned (.bool true) ∧ Below w.heap.size w w' := by
  have hr := mr.ok_of hok
  obtain ⟨hn, hs⟩ := mr.names_of hok
  have HN := Lib.hid (mr.At.new w r Ad cd An cn)
  have K1 := Lib.hid (fun w' (hb : Below w.heap.size w w') => msg_Answer_res r Ad cd An cn w' hr (SlRep.next (w := w) (w' := w') hd hb) (SlRep.next (w := w) (w' := w') hl hb) hn hs)
  have K2 := Lib.hid (fun w' (hb : Below w.heap.size w w') => ref_MsgAnswer_res r Ad cd An cn w' (SlRep.next (w := w) (w' := w') hd hb) (SlRep.next (w := w) (w' := w') hl hb) hn hs)
  clear hd hok hr hl hn hs
  go_enter Try.func5, Try.ntmps5
  go_wp2_with (first
    | (go_at_call 13; refine (K1.out _ (balloc (bself w) _)).mono ?_; rintro e w1 ⟨A2, c2, rfl, ho1, hb1⟩; have HO1 := Lib.hid ho1; have HB1 := Lib.hid hb1; have ha := HN.out.next hb1; have y0 := ha.cell 0; have y1 := ha.cell 1; have y2 := ha.cell 2; have y3 := ha.cell 3; have y4 := ha.cell 4; have y5 := ha.cell 5; have y6 := ha.cell 6; simp only [mr.vals, List.getElem?_cons_zero, List.getElem?_cons_succ] at y0 y1 y2 y3 y4 y5 y6; clear ha ho1 hb1)
    | (go_at_call 14; refine (K2.out _ (balloc (bself w) _ |>.trans (HB1.out.mono (by simp)))).mono ?_; rintro e w2 ⟨A3, c3, rfl, ho2, hb2⟩; have HR2 := Lib.hid ho2.u8.2; have HR1 := Lib.hid (HO1.out.next hb2).u8.2; have hm : (exL (mr.answer r)).length ≤ 9223372036854775807 := (by have := ho2.cap; unfold maxLen at this; omega); have HB2 := Lib.hid hb2; clear ho2 hb2 y0 y1 y2 y3 y4 y5 y6)
    | (go_at_call 9; refine (law_sameBytes _ _ _ _ _ _ _ _ HR1.out HR2.out hm).mono ?_; rintro e w3 ⟨rfl, hb3⟩; have HB3 := Lib.hid hb3; clear hb3)
    | fail)
  go_ret
  exact ⟨rfl, bnext (bnext (balloc (bself w) _ |>.trans (HB1.out.mono (by simp))) HB2.out) HB3.out⟩
end Go.Proofs.Ytcpbgiikfabaaaa
