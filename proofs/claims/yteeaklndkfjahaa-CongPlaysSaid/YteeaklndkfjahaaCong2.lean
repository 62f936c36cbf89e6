/- Package cong: Play. No condition. -/
import Derived.Test.YteeaklndkfjahaaCong
namespace Go.Proofs.Yteeaklndkfjahaa
open Go.RowKit

theorem elemWidth : ElemT Try.prog 23 28 3 24 := ElemT.of Try.underlying23 (z := .agg #[.int .i64 0, .int .i64 0, .int .i64 0]) (by kernel_rfl) rfl (by decide)
theorem CW.alloc {w : World} {g : Nat} {s : Width} (h : CW w g s) (o : Obj) : CW (w.alloc o) g s := (Below.heap_alloc w o g h.cells.2.2.2.2).trans h
theorem CW.grew {w w' : World} {g : Nat} {s : Width} {A A' : Option Addr} (h : CW w g s) (hg : Grew w w' A A') (hne : ∀ k, blkOf A = some k → k ≠ g) : CW w' g s :=
  (hg.grown.block g h.cells.2.2.2.2 (fun e => hne g e.symm rfl)).trans h

/-- what Play answers, and the reference -/
def CngPost (l : List Signal) (m : Nat) (w : World) (e : Ending) (w' : World) : Prop :=
  Below w.heap.size w w' ∧ (m = l.length → ∃ A' c', e = .returned (.tuple #[.slice A' l.length c', .int .i64 0]) ∧ Own w' w.heap.size 28 3 A' l.length c' ((cng.outTo l l.length).flatMap Width.cells)) ∧
  (m < l.length → cng.knd l m = 1 → (cng.cnt l m < 1 ∨ 64 < cng.cnt l m) → e = .returned (.tuple #[.slice none 0 0, .int .i64 2])) ∧
  (m < l.length → (cng.knd l m < 1 ∨ 3 < cng.knd l m) → e = .returned (.tuple #[.slice none 0 0, .int .i64 3]))

theorem CngPost.range {l : List Signal} {m : Nat} {w w' : World} {e : Ending} (hB : Below w.heap.size w w') (hm : m < l.length) (h1 : cng.knd l m = 1) (_h2 : cng.cnt l m < 1 ∨ 64 < cng.cnt l m) (he : e = .returned (.tuple #[.slice none 0 0, .int .i64 2])) : CngPost l m w e w' :=
  ⟨hB, fun h => by omega, fun _ _ _ => he, fun _ h => by omega⟩
theorem CngPost.kind {l : List Signal} {m : Nat} {w w' : World} {e : Ending} (hB : Below w.heap.size w w') (hm : m < l.length) (h1 : cng.knd l m < 1 ∨ 3 < cng.knd l m) (he : e = .returned (.tuple #[.slice none 0 0, .int .i64 3])) : CngPost l m w e w' :=
  ⟨hB, fun h => by omega, fun _ h => by omega, fun _ _ => he⟩
theorem CngPost.well {l : List Signal} {w w' : World} {e : Ending} (hB : Below w.heap.size w w') (h : ∃ A' c', e = .returned (.tuple #[.slice A' l.length c', .int .i64 0]) ∧ Own w' w.heap.size 28 3 A' l.length c' ((cng.outTo l l.length).flatMap Width.cells)) : CngPost l l.length w e w' :=
  ⟨hB, fun _ => h, fun h => by omega, fun h => by omega⟩

set_option maxHeartbeats 4000000 in
theorem cong_Play_any (l : List Signal) (A : Option Addr) (c : Nat) (w : World) (hl : SlRep Signal.rep w (· < w.heap.size) l A c) (hn : l.length ≤ 300) (m : Nat) (hm : m ≤ l.length) (hv : cng.Valid l m) (hver : cng.Verdict l m) :
    Calls Try.prog 15 #[.slice A l.length c] w (CngPost l m w) := by
  have HL := Lib.hid hl
  have HV := Lib.hid hv
  clear hl hv
  go_enter Try.func15, Try.ntmps15
  go_wp2
  go_loopw [5, 14] (fun out i wr => ∃ (k : Nat) (A' : Option Addr) (c' : Nat), k ≤ m ∧ i = .int .i64 k ∧ out = .slice A' k c' ∧ Hid (CW wr w.heap.size (cng.stTo l k)) ∧ Hid (Own wr (w.heap.size + 1) 28 3 A' k c' ((cng.outTo l k).flatMap Width.cells)) ∧ Below w.heap.size w wr) (fun _ i _ => l.length - (intOf i).toNat)
  case atStart => exact ⟨0, none, 0, Nat.zero_le _, rfl, rfl, Lib.hid (heap_alloc_new w _), Lib.hid (Own.nil _ _ _ _), balloc (bself w) _⟩
  case round =>
    obtain ⟨k, A', c', hk, rfl, rfl, HC, HO, hB⟩ := hrel
    by_cases hlt : k < m
    · have hltl : k < l.length := by omega
      obtain ⟨bb, o, rfl, hbb, hc1, hc2⟩ := Signal.cells_at cng.z (HL.out.below hB) hltl
      rename World => wo
      have hbw : bb < wo.heap.size := Nat.lt_of_lt_of_le hbb hB.size
      have hsz := hB.size
      have hgood := cng.good_stTo l k
      have hok := HV.out k hlt
      have HST : Hid (cng.stTo l (k + 1) = cng.step (cng.knd l k) (cng.cnt l k) (cng.stTo l k)) := Lib.hid rfl
      have HOT : Hid ((cng.outTo l (k + 1)).flatMap Width.cells = (cng.outTo l k).flatMap Width.cells ++ Width.cells (cng.stTo l (k + 1))) := Lib.hid (by simp [cng.outTo])
      unfold cng.OkSig at hok
      change wo.cell? ⟨bb, o + k * 2, none⟩ = some (.int .i64 (cng.knd l k)) at hc1
      change wo.cell? ⟨bb, o + k * 2 + 1, none⟩ = some (.int .i64 (cng.cnt l k)) at hc2
      clear HL HV
      generalize cng.knd l k = kd at *
      generalize cng.cnt l k = ct at *
      generalize cng.stTo l k = st at *
      have HG := Lib.hid hgood
      clear hgood
      obtain ⟨d0, d1, d2, df, dl⟩ := HC.out.cells
      by_cases k1 : kd = 1
      · subst k1
        have hct : 1 ≤ ct ∧ ct ≤ 64 := by omega
        clear hok
        go_wp2
        obtain ⟨w3, hw3⟩ : ∃ w3, w3 = wo.alloc (.cells #[.int .i64 1, .int .i64 ct] 88) := ⟨_, rfl⟩
        have HC3 : Hid (CW w3 w.heap.size st) := Lib.hid (by rw [hw3]; exact HC.out.alloc _)
        have HO1 : Hid (Own w3 (w.heap.size + 1) 28 3 A' k c' ((cng.outTo l k).flatMap Width.cells)) := Lib.hid (by rw [hw3]; exact HO.out.alloc _)
        have hB3 : Below w.heap.size w w3 := by rw [hw3]; exact balloc hB _
        have hs3 : wo.heap.size < w3.heap.size := by rw [hw3]; simp
        have hx3 : w3.cell? ⟨wo.heap.size, 1, none⟩ = some (.int .i64 ct) := by rw [hw3]; simp [go_sem]
        rw [← hw3]
        clear hw3
        go_loopw [32] (fun i wr => ∃ j : Nat, (j : Int) ≤ ct ∧ i = .int .i64 j ∧ Hid (CW wr w.heap.size (cng.ackN j st)) ∧ w3.grownBy wr (some w.heap.size)) (fun i _ => (ct - intOf i).toNat)
        case atStart => exact ⟨0, by omega, rfl, HC3, World.grownBy.refl _ _⟩
        case round =>
          obtain ⟨j, hj, rfl, HCJ, hgj⟩ := hrel
          rename World => wj
          by_cases hlj : (j : Int) < ct
          · go_wp2_with (go_at_call 44; refine (cong_acked w.heap.size (cng.ackN j st) _ HCJ.out (cng.good_ackN HG.out j)).mono ?_; rintro e w4 ⟨rfl, h4, h5⟩; have H4 := Lib.hid h4; clear h4)
            go_roundw
            case rel => exact ⟨j + 1, by omega, by go_num, H4, only_trans hgj h5⟩
            case measure => simp [intOf]; omega
          · have hje : (j : Int) = ct := by omega
            have HJ : Hid (cng.ackN j st = cng.stTo l (k + 1)) := Lib.hid (by
              rw [HST.out]
              unfold cng.step
              rw [if_pos rfl, ← hje]
              rfl)
            clear hje
            have HCK : Hid (CW wj w.heap.size (cng.stTo l (k + 1))) := Lib.hid (by rw [← HJ.out]; exact HCJ.out)
            have HO2 : Hid (Own wj (w.heap.size + 1) 28 3 A' k c' ((cng.outTo l k).flatMap Width.cells)) := Lib.hid (HO1.out.kept hgj (.inr (fun e => by have := (HO1.out.lt _ e).1; omega)))
            have hBJ : Below w.heap.size w wj := hB3.grown hgj hB3.size (fun x hx => by cases hx; exact Nat.le_refl _)
            clear HJ HCJ HST HC HC3 HO HO1 d0 d1 d2 df hx3
            obtain ⟨d0, d1, d2, df, dl2⟩ := HCK.out.cells
            obtain ⟨s2, hs2⟩ : ∃ s2, s2 = cng.stTo l (k + 1) := ⟨_, rfl⟩
            rw [← hs2] at HOT HCK d0 d1 d2
            have HS2 := Lib.hid hs2
            clear hs2
            go_wp2_with (at_builtin; refine wp_app _ rfl _ _ _ rfl elemWidth (w.heap.size + 1) A' _ c' _ rfl (HO2.out.alloc _) _ 1 1 [_, _, _] rfl rfl (Cells.newAt _ _ _ (by simp)) (by simp [Value.oneCell']) (by omega) (by unfold maxLen; omega) (by simp; omega) ?_; intro A2 c2 w2 hO2 hg2; have HO3 := Lib.hid hO2; clear hO2)
            go_roundw
            case rel => exact ⟨k + 1, A2, c2, by omega, by go_num, rfl, Lib.hid (by rw [← HS2.out]; exact (HCK.out.alloc _).grew hg2 (fun x hx => by have := (HO2.out.lt x hx).1; omega)), Lib.hid (by rw [HOT.out]; exact HO3.out), Grew.step (balloc hBJ _) hg2 (fun x hx => by have := (HO2.out.lt x hx).1; omega)⟩
            case measure => simp [intOf]; omega
      · by_cases k2 : kd = 2
        · subst k2
          clear hok
          obtain ⟨w3, hw3⟩ : ∃ w3, w3 = wo.alloc (.cells #[.int .i64 2, .int .i64 ct] 88) := ⟨_, rfl⟩
          have HC3 : Hid (CW w3 w.heap.size st) := Lib.hid (by rw [hw3]; exact HC.out.alloc _)
          have HO1 : Hid (Own w3 (w.heap.size + 1) 28 3 A' k c' ((cng.outTo l k).flatMap Width.cells)) := Lib.hid (by rw [hw3]; exact HO.out.alloc _)
          have hB3 : Below w.heap.size w w3 := by rw [hw3]; exact balloc hB _
          have HL3 := Lib.hid (cong_lost w.heap.size st false w3 HC3.out HG.out)
          rw [hw3] at HL3
          have HW3 := Lib.hid hw3
          clear hw3
          go_wp2_with fail
          refine HL3.out.mono ?_
          rintro e wj ⟨rfl, hcj, hgj⟩
          rw [← HW3.out] at hgj
          have HCK : Hid (CW wj w.heap.size (cng.stTo l (k + 1))) := Lib.hid (by rw [HST.out]; unfold cng.step; rw [if_neg (by decide)]; exact hcj)
          have HO2 : Hid (Own wj (w.heap.size + 1) 28 3 A' k c' ((cng.outTo l k).flatMap Width.cells)) := Lib.hid (HO1.out.kept hgj (.inr (fun e => by have := (HO1.out.lt _ e).1; omega)))
          have hBJ : Below w.heap.size w wj := hB3.grown hgj hB3.size (fun x hx => by cases hx; exact Nat.le_refl _)
          clear HST HC HC3 HO HO1 d0 d1 d2 df hcj HL3 HW3
          obtain ⟨d0, d1, d2, df, dl2⟩ := HCK.out.cells
          obtain ⟨s2, hs2⟩ : ∃ s2, s2 = cng.stTo l (k + 1) := ⟨_, rfl⟩
          rw [← hs2] at HOT HCK d0 d1 d2
          have HS2 := Lib.hid hs2
          clear hs2
          go_wp2_with (at_builtin; refine wp_app _ rfl _ _ _ rfl elemWidth (w.heap.size + 1) A' _ c' _ rfl (HO2.out.alloc _) _ 1 1 [_, _, _] rfl rfl (Cells.newAt _ _ _ (by simp)) (by simp [Value.oneCell']) (by omega) (by unfold maxLen; omega) (by simp; omega) ?_; intro A2 c2 w2 hO2 hg2; have HO3 := Lib.hid hO2; clear hO2)
          go_roundw
          case rel => exact ⟨k + 1, A2, c2, by omega, by go_num, rfl, Lib.hid (by rw [← HS2.out]; exact (HCK.out.alloc _).grew hg2 (fun x hx => by have := (HO2.out.lt x hx).1; omega)), Lib.hid (by rw [HOT.out]; exact HO3.out), Grew.step (balloc hBJ _) hg2 (fun x hx => by have := (HO2.out.lt x hx).1; omega)⟩
          case measure => simp [intOf]; omega
        · obtain rfl : kd = 3 := by omega
          clear hok
          obtain ⟨w3, hw3⟩ : ∃ w3, w3 = wo.alloc (.cells #[.int .i64 3, .int .i64 ct] 88) := ⟨_, rfl⟩
          have HC3 : Hid (CW w3 w.heap.size st) := Lib.hid (by rw [hw3]; exact HC.out.alloc _)
          have HO1 : Hid (Own w3 (w.heap.size + 1) 28 3 A' k c' ((cng.outTo l k).flatMap Width.cells)) := Lib.hid (by rw [hw3]; exact HO.out.alloc _)
          have hB3 : Below w.heap.size w w3 := by rw [hw3]; exact balloc hB _
          have HL3 := Lib.hid (cong_lost w.heap.size st true w3 HC3.out HG.out)
          rw [hw3] at HL3
          have HW3 := Lib.hid hw3
          clear hw3
          go_wp2_with fail
          refine HL3.out.mono ?_
          rintro e wj ⟨rfl, hcj, hgj⟩
          rw [← HW3.out] at hgj
          have HCK : Hid (CW wj w.heap.size (cng.stTo l (k + 1))) := Lib.hid (by rw [HST.out]; unfold cng.step; rw [if_neg (by decide)]; exact hcj)
          have HO2 : Hid (Own wj (w.heap.size + 1) 28 3 A' k c' ((cng.outTo l k).flatMap Width.cells)) := Lib.hid (HO1.out.kept hgj (.inr (fun e => by have := (HO1.out.lt _ e).1; omega)))
          have hBJ : Below w.heap.size w wj := hB3.grown hgj hB3.size (fun x hx => by cases hx; exact Nat.le_refl _)
          clear HST HC HC3 HO HO1 d0 d1 d2 df hcj HL3 HW3
          obtain ⟨d0, d1, d2, df, dl2⟩ := HCK.out.cells
          obtain ⟨s2, hs2⟩ : ∃ s2, s2 = cng.stTo l (k + 1) := ⟨_, rfl⟩
          rw [← hs2] at HOT HCK d0 d1 d2
          have HS2 := Lib.hid hs2
          clear hs2
          go_wp2_with (at_builtin; refine wp_app _ rfl _ _ _ rfl elemWidth (w.heap.size + 1) A' _ c' _ rfl (HO2.out.alloc _) _ 1 1 [_, _, _] rfl rfl (Cells.newAt _ _ _ (by simp)) (by simp [Value.oneCell']) (by omega) (by unfold maxLen; omega) (by simp; omega) ?_; intro A2 c2 w2 hO2 hg2; have HO3 := Lib.hid hO2; clear hO2)
          go_roundw
          case rel => exact ⟨k + 1, A2, c2, by omega, by go_num, rfl, Lib.hid (by rw [← HS2.out]; exact (HCK.out.alloc _).grew hg2 (fun x hx => by have := (HO2.out.lt x hx).1; omega)), Lib.hid (by rw [HOT.out]; exact HO3.out), Grew.step (balloc hBJ _) hg2 (fun x hx => by have := (HO2.out.lt x hx).1; omega)⟩
          case measure => simp [intOf]; omega
    · obtain rfl : k = m := by omega
      clear HV
      cases hver with
      | well h =>
        subst h
        clear HL HC
        go_wp2
        go_ret2
        exact CngPost.well hB ⟨A', c', rfl, HO.out.base_le (by omega)⟩
      | range hltl h1 h2 =>
        obtain ⟨bb, o, rfl, hbb, hc1, hc2⟩ := Signal.cells_at cng.z (HL.out.below hB) hltl
        rename World => wr
        have hbw : bb < wr.heap.size := Nat.lt_of_lt_of_le hbb hB.size
        have HF := Lib.hid (fun (e : Ending) (w' : World) (hB : Below w.heap.size w w') (he : e = .returned (.tuple #[.slice none 0 0, .int .i64 2])) => CngPost.range hB hltl h1 h2 he)
        change wr.cell? ⟨bb, o + k * 2, none⟩ = some (.int .i64 (cng.knd l k)) at hc1
        change wr.cell? ⟨bb, o + k * 2 + 1, none⟩ = some (.int .i64 (cng.cnt l k)) at hc2
        clear HL HC HO
        generalize cng.knd l k = kd at *
        generalize cng.cnt l k = ct at *
        subst h1
        rcases h2 with h2 | h2
        · go_wp2
          go_ret2
          exact HF.out _ _ (balloc hB _) rfl
        · have h3 : 1 ≤ ct := by omega
          go_wp2
          go_ret2
          exact HF.out _ _ (balloc hB _) rfl
      | kind hltl h1 =>
        obtain ⟨bb, o, rfl, hbb, hc1, hc2⟩ := Signal.cells_at cng.z (HL.out.below hB) hltl
        rename World => wr
        have hbw : bb < wr.heap.size := Nat.lt_of_lt_of_le hbb hB.size
        have HF := Lib.hid (fun (e : Ending) (w' : World) (hB : Below w.heap.size w w') (he : e = .returned (.tuple #[.slice none 0 0, .int .i64 3])) => CngPost.kind hB hltl h1 he)
        change wr.cell? ⟨bb, o + k * 2, none⟩ = some (.int .i64 (cng.knd l k)) at hc1
        change wr.cell? ⟨bb, o + k * 2 + 1, none⟩ = some (.int .i64 (cng.cnt l k)) at hc2
        clear HL HC HO
        generalize cng.knd l k = kd at *
        generalize cng.cnt l k = ct at *
        have e1 : (kd == 1) = false := by rw [beq_eq_false_iff_ne]; omega
        have e2 : (kd == 2) = false := by rw [beq_eq_false_iff_ne]; omega
        have e3 : (kd == 3) = false := by rw [beq_eq_false_iff_ne]; omega
        rcases h1 with h1 | h1
        · go_wp2
          go_ret2
          exact HF.out _ _ (balloc hB _) rfl
        · have h4 : 1 ≤ kd := by omega
          go_wp2
          go_ret2
          exact HF.out _ _ (balloc hB _) rfl
end Go.Proofs.Yteeaklndkfjahaa
