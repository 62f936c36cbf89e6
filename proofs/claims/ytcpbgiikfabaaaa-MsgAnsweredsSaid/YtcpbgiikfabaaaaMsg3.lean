/- Package msg: all parts: what is refused. No condition. -/
import Derived.Test.YtcpbgiikfabaaaaMsg2
import Derived.Deep.DeepCutAuto
namespace Go.Proofs.Ytcpbgiikfabaaaa
open Go.RowKit

theorem mg.drop_at {l : List mg.Sel} {k : Nat} (hk : k < l.length) : l.drop k = l.getD k .kind :: l.drop (k + 1) := drop_getD l .kind hk
theorem mg.cells_four (B : Nat) (s : mg.Sel) : ∃ x p q t, mg.cells B s = [.int .i64 x, .pointer p, .pointer q, .pointer t] := by
  cases s <;> exact ⟨_, _, _, _, rfl⟩

set_option maxRecDepth 100000 in
set_option maxHeartbeats 4000000 in
theorem msg_all (B : Nat) (r : Request) (A : Option Addr) (c : Nat) (l : List mg.Sel) (Al : Option Addr) (cl base : Nat) (w : World) (hr : mg.Ok r) (h : mg.At w B r A c) (ho : Own w base 50 4 Al l.length cl (l.flatMap (mg.cells B))) (hl : l.length ≤ 100) :
    Calls Try.prog 21 #[.slice Al l.length cl] w fun e w' => e = .returned (.int .i64 (mg.allTo r 0 l)) ∧ Below w.heap.size w w' := by
  have HA := Lib.hid h
  have HO := Lib.hid ho
  have HR := Lib.hid hr
  clear h ho hr
  go_enter Try.func21, Try.ntmps21
  go_wp2
  go_loopw [3, 5, 6, 9] (fun s3 _ _ s9 wr => ∃ (k : Nat) (out : Int), s3 = .int .i64 out ∧ s9 = .int .i64 k ∧ k ≤ l.length ∧ Hid (mg.allTo r out (l.drop k) = mg.allTo r 0 l) ∧ Hid (Below w.heap.size w wr)) (fun _ _ _ s9 _ => l.length - (intOf s9).toNat)
  case atStart => exact ⟨0, 0, rfl, rfl, by omega, Lib.hid rfl, Lib.hid (Below.refl _ _)⟩
  case round =>
    obtain ⟨k, out, rfl, rfl, hk, HT, HW⟩ := hrel
    rename World => wr
    by_cases hlt : k < l.length
    · obtain ⟨g, rfl, hg1, hg2, hgc⟩ := mg.row_at (HO.out.next HW.out) hlt
      have HTD := Lib.hid (mg.drop_at hlt)
      generalize hsl : l.getD k .kind = s at *
      clear hsl
      obtain ⟨a, b, cc, d, hcs⟩ := mg.cells_four B s
      have x0 := hgc 0 (by omega)
      have x1 := hgc 1 (by omega)
      have x2 := hgc 2 (by omega)
      have x3 := hgc 3 (by omega)
      simp only [hcs, List.getElem?_cons_zero, List.getElem?_cons_succ, Nat.add_zero] at x0 x1 x2 x3
      clear hgc
      have HF : Hid (∀ o, Calls Try.prog 38 #[.agg #[.int .i64 a, .pointer b, .pointer cc, .pointer d]] (wr.alloc o) fun e w' => e = .returned (.int .i64 (mg.fit r s)) ∧ Below (wr.alloc o).heap.size (wr.alloc o) w') := Lib.hid (fun o => by
        have := msg_fits B r A c s (wr.alloc o) HR.out ((HA.out.next HW.out).next (balloc (bself wr) o))
        rwa [hcs] at this)
      have HS : Hid (mg.allTo r out (l.drop k) = if mg.fit r s = 2 then 2 else mg.allTo r (if out = 0 then mg.fit r s else out) (l.drop (k + 1))) := Lib.hid (by rw [HTD.out]; rfl)
      clear HTD hcs
      rcases mg.fit_cases r s with hf | hf | hf
      · rw [hf] at HF HS
        by_cases h0 : out = 0
        · subst h0
          go_wp2_with (go_at_call 38; refine (HF.out _).mono ?_; rintro e w2 ⟨rfl, hb2⟩)
          go_roundw
          case rel => exact ⟨k + 1, 0, rfl, by go_num, by omega, Lib.hid (HS.out.symm.trans HT.out), Lib.hid (bnext HW.out ((balloc (bself wr) _).trans (hb2.mono (by simp))))⟩
          case measure => simp [intOf]; omega
        · have q0 : (out == 0) = false := beq_eq_false_iff_ne.2 h0
          have HS2 : Hid (mg.allTo r out (l.drop (k + 1)) = mg.allTo r 0 l) := Lib.hid (by rw [← HT.out, HS.out, if_neg (by decide), if_neg h0])
          clear h0
          go_wp2_with (go_at_call 38; refine (HF.out _).mono ?_; rintro e w2 ⟨rfl, hb2⟩)
          go_roundw
          case rel => exact ⟨k + 1, out, rfl, by go_num, by omega, HS2, Lib.hid (bnext HW.out ((balloc (bself wr) _).trans (hb2.mono (by simp))))⟩
          case measure => simp [intOf]; omega
      · rw [hf] at HF HS
        by_cases h0 : out = 0
        · subst h0
          go_wp2_with (go_at_call 38; refine (HF.out _).mono ?_; rintro e w2 ⟨rfl, hb2⟩)
          go_roundw
          case rel => exact ⟨k + 1, 1, rfl, by go_num, by omega, Lib.hid (HS.out.symm.trans HT.out), Lib.hid (bnext HW.out ((balloc (bself wr) _).trans (hb2.mono (by simp))))⟩
          case measure => simp [intOf]; omega
        · have q0 : (out == 0) = false := beq_eq_false_iff_ne.2 h0
          have HS2 : Hid (mg.allTo r out (l.drop (k + 1)) = mg.allTo r 0 l) := Lib.hid (by rw [← HT.out, HS.out, if_neg (by decide), if_neg h0])
          clear h0
          go_wp2_with (go_at_call 38; refine (HF.out _).mono ?_; rintro e w2 ⟨rfl, hb2⟩)
          go_roundw
          case rel => exact ⟨k + 1, out, rfl, by go_num, by omega, HS2, Lib.hid (bnext HW.out ((balloc (bself wr) _).trans (hb2.mono (by simp))))⟩
          case measure => simp [intOf]; omega
      · rw [hf] at HF HS
        have HE : Hid (mg.allTo r 0 l = 2) := Lib.hid (by rw [← HT.out, HS.out, if_pos rfl])
        go_wp2_with (go_at_call 38; refine (HF.out _).mono ?_; rintro e w2 ⟨rfl, hb2⟩)
        go_ret
        exact ⟨by rw [HE.out]; rfl, bnext HW.out ((balloc (bself wr) _).trans (hb2.mono (by simp)))⟩
    · obtain rfl : k = l.length := by omega
      have HE : Hid (mg.allTo r 0 l = out) := Lib.hid (by have := HT.out; rw [List.drop_length] at this; exact this.symm)
      go_wp2
      go_ret
      exact ⟨by rw [HE.out]; rfl, HW.out⟩
end Go.Proofs.Ytcpbgiikfabaaaa
