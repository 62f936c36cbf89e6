/- Package cong: the reference of Play. No condition. -/
import Derived.Test.YteeaklndkfjahaaCong2
namespace Go.Proofs.Yteeaklndkfjahaa
open Go.RowKit

set_option maxHeartbeats 4000000 in
theorem ref_Cong_any (l : List Signal) (A : Option Addr) (c : Nat) (w : World) (hl : SlRep Signal.rep w (· < w.heap.size) l A c) (hn : l.length ≤ 300) (m : Nat) (hm : m ≤ l.length) (hv : cng.Valid l m) (hver : cng.Verdict l m) :
    Calls Try.prog 16 #[.slice A l.length c] w (CngPost l m w) := by
  have HL := Lib.hid hl
  have HV := Lib.hid hv
  clear hl hv
  go_enter Try.func16, Try.ntmps16
  go_wp2
  go_loopw [4, 5, 6, 7, 17] (fun wi sl ag out i wr => ∃ (k : Nat) (A' : Option Addr) (c' : Nat), k ≤ m ∧ i = .int .i64 k ∧ out = .slice A' k c' ∧ wi = .int .i64 (cng.stTo l k).window ∧ sl = .int .i64 (cng.stTo l k).slow ∧ ag = .int .i64 (cng.stTo l k).again ∧ Hid (Own wr w.heap.size 28 3 A' k c' ((cng.outTo l k).flatMap Width.cells)) ∧ Below w.heap.size w wr) (fun _ _ _ _ i _ => l.length - (intOf i).toNat)
  case atStart => exact ⟨0, none, 0, Nat.zero_le _, rfl, rfl, rfl, rfl, rfl, Lib.hid (Own.nil _ _ _ _), bself w⟩
  case round =>
    obtain ⟨k, A', c', hk, rfl, rfl, rfl, rfl, rfl, HO, hB⟩ := hrel
    by_cases hlt : k < m
    · have hltl : k < l.length := by omega
      obtain ⟨bb, o, rfl, hbb, hc1, hc2⟩ := Signal.cells_at cng.z (HL.out.below hB) hltl
      rename World => wo
      have hbw : bb < wo.heap.size := Nat.lt_of_lt_of_le hbb hB.size
      have hsz := hB.size
      have HG := Lib.hid (cng.good_stTo l k)
      have hok := HV.out k hlt
      have HST : Hid (cng.stTo l (k + 1) = cng.step (cng.knd l k) (cng.cnt l k) (cng.stTo l k)) := Lib.hid rfl
      have HOT : Hid ((cng.outTo l (k + 1)).flatMap Width.cells = (cng.outTo l k).flatMap Width.cells ++ Width.cells (cng.stTo l (k + 1))) := Lib.hid (by simp [cng.outTo])
      unfold cng.OkSig at hok
      change wo.cell? ⟨bb, o + k * 2, none⟩ = some (.int .i64 (cng.knd l k)) at hc1
      change wo.cell? ⟨bb, o + k * 2 + 1, none⟩ = some (.int .i64 (cng.cnt l k)) at hc2
      clear HL HV
      generalize cng.knd l k = kd at *
      generalize cng.cnt l k = ct at *
      generalize cng.stTo l k = st at *
      by_cases k1 : kd = 1
      · subst k1
        have hct : 1 ≤ ct ∧ ct ≤ 64 := by omega
        clear hok
        go_wp2
        obtain ⟨w3, hw3⟩ : ∃ w3, w3 = wo.alloc (.cells #[.int .i64 1, .int .i64 ct] 88) := ⟨_, rfl⟩
        have HO2 : Hid (Own w3 w.heap.size 28 3 A' k c' ((cng.outTo l k).flatMap Width.cells)) := Lib.hid (by rw [hw3]; exact HO.out.alloc _)
        have hB3 : Below w.heap.size w w3 := by rw [hw3]; exact balloc hB _
        have hx3 : w3.cell? ⟨wo.heap.size, 1, none⟩ = some (.int .i64 ct) := by rw [hw3]; simp [go_sem]
        rw [← hw3]
        clear hw3
        go_loop [4, 6, 10] (fun wi ag i => ∃ j : Nat, (j : Int) ≤ ct ∧ i = .int .i64 j ∧ wi = .int .i64 (cng.ackN j st).window ∧ ag = .int .i64 (cng.ackN j st).again) (fun _ _ i => (ct - intOf i).toNat)
        case atStart => exact ⟨0, by omega, rfl, rfl, rfl⟩
        case round =>
          obtain ⟨j, hj, rfl, rfl, rfl⟩ := hrel
          have hgj := cng.good_ackN HG.out j
          have HSL := Lib.hid (cng.ackN_slow st j)
          have HAK : Hid (cng.ackN (j + 1) st = cng.ack (cng.ackN j st)) := Lib.hid rfl
          by_cases hlj : (j : Int) < ct
          · have hgs := HG.out
            unfold cng.Good at hgj hgs
            rw [HSL.out] at hgj
            have HA : Hid (cng.ack (cng.ackN j st) = if (cng.ackN j st).window < st.slow then ⟨min ((cng.ackN j st).window + 1) 64, st.slow, (cng.ackN j st).again⟩ else if (cng.ackN j st).window ≤ (cng.ackN j st).again + 1 then ⟨min ((cng.ackN j st).window + 1) 64, st.slow, 0⟩ else ⟨(cng.ackN j st).window, st.slow, (cng.ackN j st).again + 1⟩) := Lib.hid (by unfold cng.ack; rw [HSL.out])
            clear HSL HG
            generalize (cng.ackN j st).window = wi at *
            generalize (cng.ackN j st).again = ag at *
            by_cases a1 : wi < st.slow
            · have HA2 := Lib.hid (HA.out.trans (if_pos a1))
              by_cases a3 : wi < 64
              · go_wp2
                go_round
                case rel => exact ⟨j + 1, by omega, by go_num, by rw [HAK.out, HA2.out]; congr 1; dsimp only; omega, by rw [HAK.out, HA2.out]⟩
                case measure => simp [intOf]; omega
              · exact absurd a3 (by omega)
            · by_cases a2 : wi ≤ ag + 1
              · have HA2 := Lib.hid (HA.out.trans ((if_neg a1).trans (if_pos a2)))
                by_cases a3 : wi < 64
                · go_wp2
                  go_round
                  case rel => exact ⟨j + 1, by omega, by go_num, by rw [HAK.out, HA2.out]; congr 1; dsimp only; omega, by rw [HAK.out, HA2.out]⟩
                  case measure => simp [intOf]; omega
                · go_wp2
                  go_round
                  case rel => exact ⟨j + 1, by omega, by go_num, by rw [HAK.out, HA2.out]; congr 1; dsimp only; omega, by rw [HAK.out, HA2.out]⟩
                  case measure => simp [intOf]; omega
              · have HA2 := Lib.hid (HA.out.trans ((if_neg a1).trans (if_neg a2)))
                go_wp2
                go_round
                case rel => exact ⟨j + 1, by omega, by go_num, by rw [HAK.out, HA2.out], by rw [HAK.out, HA2.out]⟩
                case measure => simp [intOf]; omega
          · have hje : (j : Int) = ct := by omega
            have HJ : Hid (cng.ackN j st = cng.stTo l (k + 1)) := Lib.hid (by
              rw [HST.out]
              unfold cng.step
              rw [if_pos rfl, ← hje]
              rfl)
            rw [← HSL.out]
            rw [HJ.out]
            clear hje HSL
            have hs3 := hB3.size
            go_wp2_with (at_builtin; refine wp_app _ rfl _ _ _ rfl elemWidth w.heap.size A' _ c' _ rfl (HO2.out.alloc _) _ 1 1 [_, _, _] rfl rfl (Cells.newAt _ _ _ (by simp)) (by simp [Value.oneCell']) (by omega) (by unfold maxLen; omega) (by simp; omega) ?_; intro A2 c2 w2 hO2 hg2; have HO3 := Lib.hid hO2; clear hO2)
            go_roundw
            case rel => exact ⟨k + 1, A2, c2, by omega, by go_num, rfl, rfl, rfl, rfl, Lib.hid (by rw [HOT.out]; exact HO3.out), Grew.step (balloc hB3 _) hg2 (fun x hx => (HO2.out.lt x hx).1)⟩
            case measure => simp [intOf]; omega
      · have hgs := HG.out
        unfold cng.Good at hgs
        by_cases k2 : kd = 2
        · subst k2
          clear hok
          by_cases hb2 : 2 ≤ st.window / 2
          · have HW : Hid (cng.stTo l (k + 1) = ⟨st.window / 2, st.window / 2, 0⟩) := Lib.hid (by rw [HST.out]; simp [cng.step, cng.lost]; try omega)
            clear HST HG
            generalize st.window = wi at *
            go_wp2_with (at_builtin; refine wp_app _ rfl _ _ _ rfl elemWidth w.heap.size A' _ c' _ rfl ((HO.out.alloc _).alloc _) _ 1 1 [_, _, _] rfl rfl (Cells.newAt _ _ _ (by simp)) (by simp [Value.oneCell']) (by omega) (by unfold maxLen; omega) (by simp; omega) ?_; intro A2 c2 w2 hO2 hg2; have HO3 := Lib.hid hO2; clear hO2)
            go_roundw
            case rel => exact ⟨k + 1, A2, c2, by omega, by go_num, rfl, by rw [HW.out], by rw [HW.out], by rw [HW.out], Lib.hid (by rw [HOT.out, HW.out]; exact HO3.out), Grew.step (balloc (balloc hB _) _) hg2 (fun x hx => (HO.out.lt x hx).1)⟩
            case measure => simp [intOf]; omega
          · have hb2' : st.window / 2 < 2 := by omega
            have HW : Hid (cng.stTo l (k + 1) = ⟨2, 2, 0⟩) := Lib.hid (by rw [HST.out]; simp [cng.step, cng.lost]; try omega)
            clear HST HG
            generalize st.window = wi at *
            go_wp2_with (at_builtin; refine wp_app _ rfl _ _ _ rfl elemWidth w.heap.size A' _ c' _ rfl ((HO.out.alloc _).alloc _) _ 1 1 [_, _, _] rfl rfl (Cells.newAt _ _ _ (by simp)) (by simp [Value.oneCell']) (by omega) (by unfold maxLen; omega) (by simp; omega) ?_; intro A2 c2 w2 hO2 hg2; have HO3 := Lib.hid hO2; clear hO2)
            go_roundw
            case rel => exact ⟨k + 1, A2, c2, by omega, by go_num, rfl, by rw [HW.out], by rw [HW.out], by rw [HW.out], Lib.hid (by rw [HOT.out, HW.out]; exact HO3.out), Grew.step (balloc (balloc hB _) _) hg2 (fun x hx => (HO.out.lt x hx).1)⟩
            case measure => simp [intOf]; omega
        · obtain rfl : kd = 3 := by omega
          clear hok
          by_cases hb2 : 2 ≤ st.window / 2
          · have HW : Hid (cng.stTo l (k + 1) = ⟨1, st.window / 2, 0⟩) := Lib.hid (by rw [HST.out]; simp [cng.step, cng.lost]; try omega)
            clear HST HG
            generalize st.window = wi at *
            go_wp2_with (at_builtin; refine wp_app _ rfl _ _ _ rfl elemWidth w.heap.size A' _ c' _ rfl ((HO.out.alloc _).alloc _) _ 1 1 [_, _, _] rfl rfl (Cells.newAt _ _ _ (by simp)) (by simp [Value.oneCell']) (by omega) (by unfold maxLen; omega) (by simp; omega) ?_; intro A2 c2 w2 hO2 hg2; have HO3 := Lib.hid hO2; clear hO2)
            go_roundw
            case rel => exact ⟨k + 1, A2, c2, by omega, by go_num, rfl, by rw [HW.out], by rw [HW.out], by rw [HW.out], Lib.hid (by rw [HOT.out, HW.out]; exact HO3.out), Grew.step (balloc (balloc hB _) _) hg2 (fun x hx => (HO.out.lt x hx).1)⟩
            case measure => simp [intOf]; omega
          · have hb2' : st.window / 2 < 2 := by omega
            have HW : Hid (cng.stTo l (k + 1) = ⟨1, 2, 0⟩) := Lib.hid (by rw [HST.out]; simp [cng.step, cng.lost]; try omega)
            clear HST HG
            generalize st.window = wi at *
            go_wp2_with (at_builtin; refine wp_app _ rfl _ _ _ rfl elemWidth w.heap.size A' _ c' _ rfl ((HO.out.alloc _).alloc _) _ 1 1 [_, _, _] rfl rfl (Cells.newAt _ _ _ (by simp)) (by simp [Value.oneCell']) (by omega) (by unfold maxLen; omega) (by simp; omega) ?_; intro A2 c2 w2 hO2 hg2; have HO3 := Lib.hid hO2; clear hO2)
            go_roundw
            case rel => exact ⟨k + 1, A2, c2, by omega, by go_num, rfl, by rw [HW.out], by rw [HW.out], by rw [HW.out], Lib.hid (by rw [HOT.out, HW.out]; exact HO3.out), Grew.step (balloc (balloc hB _) _) hg2 (fun x hx => (HO.out.lt x hx).1)⟩
            case measure => simp [intOf]; omega
    · obtain rfl : k = m := by omega
      clear HV
      cases hver with
      | well h =>
        subst h
        clear HL
        go_wp2
        go_ret2
        exact CngPost.well hB ⟨A', c', rfl, HO.out⟩
      | range hltl h1 h2 =>
        obtain ⟨bb, o, rfl, hbb, hc1, hc2⟩ := Signal.cells_at cng.z (HL.out.below hB) hltl
        rename World => wr
        have hbw : bb < wr.heap.size := Nat.lt_of_lt_of_le hbb hB.size
        have HF := Lib.hid (fun (e : Ending) (w' : World) (hB : Below w.heap.size w w') (he : e = .returned (.tuple #[.slice none 0 0, .int .i64 2])) => CngPost.range hB hltl h1 h2 he)
        change wr.cell? ⟨bb, o + k * 2, none⟩ = some (.int .i64 (cng.knd l k)) at hc1
        change wr.cell? ⟨bb, o + k * 2 + 1, none⟩ = some (.int .i64 (cng.cnt l k)) at hc2
        clear HL HO
        generalize cng.knd l k = kd at *
        generalize cng.cnt l k = ct at *
        subst h1
        rcases h2 with h2 | h2
        · go_wp2
          go_ret2
          exact HF.out _ _ (balloc hB _) rfl
        · have h3 : 1 ≤ ct := by omega
          go_wp2
          go_ret2
          exact HF.out _ _ (balloc hB _) rfl
      | kind hltl h1 =>
        obtain ⟨bb, o, rfl, hbb, hc1, hc2⟩ := Signal.cells_at cng.z (HL.out.below hB) hltl
        rename World => wr
        have hbw : bb < wr.heap.size := Nat.lt_of_lt_of_le hbb hB.size
        have HF := Lib.hid (fun (e : Ending) (w' : World) (hB : Below w.heap.size w w') (he : e = .returned (.tuple #[.slice none 0 0, .int .i64 3])) => CngPost.kind hB hltl h1 he)
        change wr.cell? ⟨bb, o + k * 2, none⟩ = some (.int .i64 (cng.knd l k)) at hc1
        change wr.cell? ⟨bb, o + k * 2 + 1, none⟩ = some (.int .i64 (cng.cnt l k)) at hc2
        clear HL HO
        generalize cng.knd l k = kd at *
        generalize cng.cnt l k = ct at *
        have e1 : (kd == 1) = false := by rw [beq_eq_false_iff_ne]; omega
        have e2 : (kd == 2) = false := by rw [beq_eq_false_iff_ne]; omega
        have e3 : (kd == 3) = false := by rw [beq_eq_false_iff_ne]; omega
        rcases h1 with h1 | h1
        · go_wp2
          go_ret2
          exact HF.out _ _ (balloc hB _) rfl
        · have h4 : 1 ≤ kd := by omega
          go_wp2
          go_ret2
          exact HF.out _ _ (balloc hB _) rfl
end Go.Proofs.Yteeaklndkfjahaa
