/- The reference of tree: Find. No condition. -/
import Derived.Test.YtlcjdlnhniemcaaDoorMgH
import Derived.Test.YtlcjdlnhniemcaaDoorWalk4
namespace Go.Proofs.YtlcjdlnhniemcaaDoor
open Go.RowKit
set_option linter.unusedSimpArgs false
set_option linter.unusedVariables false

/-- what comes of a look, j links at most -/
def tr.cont (W : List tr.Item) (f : Bool) : Nat → tr.Look → Except Int Nat
  | _, .done n => .ok n
  | _, .err e => .error e
  | 0, .on _ _ _ => .error 13
  | j + 1, .on pre n rest => match pa.follow pre (tr.it W n).to with
    | .error e => .error e
    | .ok o => if 12 < (o ++ rest).length then .error 9 else tr.find W f j (o ++ rest)
theorem tr.find_cont {W : List tr.Item} {f : Bool} (j : Nat) (L : List (List UInt8)) : tr.find W f j L = tr.cont W f j (tr.look W f 0 [] L) := by
  cases hl : tr.look W f 0 [] L with
  | done n => rw [tr.find_done hl]; cases j <;> rfl
  | err e => rw [tr.find_err hl]; cases j <;> rfl
  | on pre n rest =>
    cases j with
    | zero => rw [tr.find_loop hl]; rfl
    | succ j =>
      show _ = (match pa.follow pre (tr.it W n).to with | .error e => _ | .ok o => _)
      cases h2 : pa.follow pre (tr.it W n).to with
      | error e => rw [tr.find_no hl h2]
      | ok o =>
        by_cases h3 : 12 < (o ++ rest).length
        · rw [tr.find_full hl h2 h3]; simp only [h3, if_true]
        · rw [tr.find_on hl h2 h3]; simp only [h3, if_false]
def FiR (r : Except Int Nat) (e : Ending) : Prop := match r with
  | .ok n => e = .returned (.tuple #[.int .i64 (n : Int), .int .i64 0])
  | .error c => e = .returned (.tuple #[.int .i64 0, .int .i64 c])
theorem Nms.cons {nm : List UInt8} {L : List (List UInt8)} (h : Nms (nm :: L)) : nm.length ≤ 16 ∧ Nms L := ⟨h.2 nm (List.mem_cons_self ..), by have := h.1; rw [List.length_cons] at this; omega, fun s hs => h.2 s (List.mem_cons_of_mem _ hs)⟩
theorem Nms.pre {L M : List (List UInt8)} (h : Nms (L ++ M)) : Nms L ∧ Nms M := ⟨⟨by have := h.1; rw [List.length_append] at this; omega, fun s hs => h.2 s (List.mem_append.2 (.inl hs))⟩, ⟨by have := h.1; rw [List.length_append] at this; omega, fun s hs => h.2 s (List.mem_append.2 (.inr hs))⟩⟩
theorem pa.names_rep {w : World} {B c : Nat} {A : Option Addr} {L : List (List UInt8)} (h : Own w B 9 1 A L.length c (L.map pa.sv)) : SlRep Rep.str w (· < w.heap.size) (L.map strOf) A c := (NmRep.of h).2
theorem pa.short_map {L : List (List UInt8)} (h : Nms L) : ∀ s ∈ L.map strOf, s.size ≤ 140737488351232 := fun s hs => by
  obtain ⟨x, hx, rfl⟩ := List.mem_map.1 hs
  have := h.2 x hx
  rw [strOf_size]
  omega

/-- where Find stands -/
def FiAt (w : World) (B Wb M : Nat) (W : List tr.Item) (follow : Bool) (R : Except Int Nat) (k cur : Nat) (pre L : List (List UInt8)) (A : Option Addr) (c : Nat) (wr : World) : Prop :=
  NmRep wr A c L ∧ Nms (pre ++ L) ∧ tr.Path W cur pre ∧ tr.Live W cur ∧ Below w.heap.size w wr ∧ tr.cont W follow (8 - k) (tr.look W follow cur pre L) = R
set_option maxRecDepth 100000 in
set_option maxHeartbeats 8000000 in
theorem ref_Find {B Wb M : Nat} {W : List tr.Item} {g c0 : Nat} {ia : List ItA} (L : List (List UInt8)) (A : Option Addr) (c : Nat) (follow : Bool) (w : World) (h : WdAt w B Wb M W g c0 ia) (hM : M ≤ 1000000) (hl : NmRep w A c L) (hn : Nms L) :
    Calls Tryd.prog 22 #[.pointer (some ⟨Wb, 0, none⟩), .slice A L.length c, .bool follow] w fun e w' => Below w.heap.size w w' ∧ FiR (tr.find W follow 8 L) e := by
  obtain ⟨R, hR⟩ : ∃ R, R = tr.find W follow 8 L := ⟨_, rfl⟩
  have HRok : Hid (∀ n : Nat, R = .ok n → FiR R (.returned (.tuple #[.int .i64 (n : Int), .int .i64 0]))) := Lib.hid (fun n e => by subst e; rfl)
  have HRno : Hid (∀ q, R = .error q → FiR R (.returned (.tuple #[.int .i64 0, .int .i64 q]))) := Lib.hid (fun n e => by subst e; rfl)
  rw [← hR]
  have HI : Hid (FiAt w B Wb M W follow R 0 0 [] L A c w) := Lib.hid ⟨hl, hn, .root, h.inv.root.2.1, bself _, by rw [hR, tr.find_cont]⟩
  have H := Lib.hid h
  have hfew := h.few
  clear h hl hn hR
  go_enter Tryd.func22, Tryd.ntmps22
  go_wp2
  go_loopw [1, 8, 9] (fun s1 s8 s9 wr => ∃ (k cur : Nat) (pre L1 : List (List UInt8)) (A1 : Option Addr) (c1 : Nat), k ≤ 8 ∧ L1.length ≤ 12 ∧ s1 = .slice A1 L1.length c1 ∧ s8 = .int .i64 (cur : Int) ∧ s9 = .int .i64 (k : Int) ∧ Hid (FiAt w B Wb M W follow R k cur pre L1 A1 c1 wr)) (fun s1 _ s9 _ => 13 * (8 - (intOf s9).toNat) + (match s1 with | .slice _ n _ => n | _ => 0))
  case atStart => exact ⟨0, 0, [], L, A, c, by omega, HI.out.2.1.1, rfl, rfl, rfl, HI⟩
  case round =>
    obtain ⟨k, cur, pre, L1, A1, c1, hk, hl12, rfl, rfl, rfl, HJ⟩ := hrel
    rename World => wr
    obtain ⟨j1, j2, j3, j4, j5, j6⟩ := HJ.out
    cases L1 with
    | nil =>
      have HE := Lib.hid (HRok.out cur (by rw [← j6]; cases 8 - k <;> rfl))
      have HB := Lib.hid j5
      clear HJ j1 j2 j3 j4 j5 j6
      go_wp2
      go_ret2
      exact ⟨HB.out, HE.out⟩
    | cons nm rest =>
      obtain ⟨n1, n2⟩ := j2.pre.2.cons
      have hcl := j4.lt
      obtain ⟨_, _, _, q0, _, _, _, _, _, _⟩ := (H.out.next j5).at hcl
      have hr0 := (H.out.next j5).row
      have hgl := ((H.out.next j5).lt (.inr rfl)).2
      have hWl := ((H.out.next j5).lt (.inl rfl)).2
      have hcl' : (cur : Int) < (W.length : Int) := by omega
      have HB := Lib.hid j5
      have h0 : (0 : Int) < (((nm :: rest).length : Nat) : Int) := by rw [List.length_cons]; omega
      have h0n : 0 < (nm :: rest).length := by rw [List.length_cons]; omega
      by_cases hk1 : (tr.it W cur).kind = 1
      · have hk1' : ((tr.it W cur).kind != 1) = false := by simpa using hk1
        obtain ⟨bb, oo, rfl, hbb, hc1⟩ := j1.at (k := 0) (by rw [List.length_cons]; omega)
        rw [show oo + 0 = oo from rfl, show (nm :: rest).getD 0 [] = nm from rfl] at hc1
        have HCH := Lib.hid (fun w2 (hb : Below wr.heap.size wr w2) => ref_child cur nm w2 ((H.out.next j5).next hb) hM)
        cases hch : tr.child W cur nm with
        | none =>
          have HE := Lib.hid (HRno.out 7 (by rw [← j6, tr.look_none hk1 hch]; cases 8 - k <;> rfl))
          have hci : tr.childI W cur nm = -1 := by unfold tr.childI; rw [hch]
          rw [hci] at HCH
          clear HJ j1 j2 j3 j4 j5 j6 hch hci hk1 n1 n2
          go_wp2_with (first
            | (go_at_call 35; ((with_reducible refine (HCH.out _ (by exact bself _)).mono ?_); rintro e w2 ⟨rfl, hb2⟩; have HB2 := Lib.hid hb2; clear hb2))
            | fail)
          go_ret2
          exact ⟨bnext HB.out HB2.out, HE.out⟩
        | some n =>
          obtain ⟨m1, m2, m3, m4⟩ := tr.child_live hch
          have hci : tr.childI W cur nm = (n : Int) := by unfold tr.childI; rw [hch]
          rw [hci] at HCH
          have hnl := m2.lt
          have hn0 : ¬ (n : Int) < 0 := by omega
          have hnl' : (n : Int) < (W.length : Int) := by omega
          have HPN : Hid (tr.Path W n (pre ++ [nm])) := Lib.hid (by rw [← m4]; exact .step m1 m2 m3 j3)
          have HML := Lib.hid m2
          have HRE : Hid (∀ w2, Below wr.heap.size wr w2 → NmRep w2 (cutA (some ⟨bb, oo, none⟩) c1 1 1) (c1 - 1) rest) := Lib.hid (fun w2 hb => by
            have h := SlRep.drop (SlRep.next j1 hb) (f := 1) (by rw [List.length_map, List.length_cons]; omega)
            rw [← List.map_drop] at h
            exact h)
          have hsl := run_cut_l (P := Tryd.prog) pa.elemN (some ⟨bb, oo, none⟩) (nm :: rest).length c1 1 (by rw [List.length_cons]; omega) (1 : Int) rfl
          have hrl : (nm :: rest).length - 1 = rest.length := rfl
          rw [hrl] at hsl
          have HNM := Lib.hid j2
          have HPC := Lib.hid j3
          have HAT := Lib.hid (fun w2 (hb : Below wr.heap.size wr w2) => ((H.out.next j5).next hb))
          have HIT := Lib.hid (fun w2 (hb : Below wr.heap.size wr w2) => ((H.out.next j5).next hb).at hnl)
          rw [List.length_cons] at hl12 h0 h0n hsl ⊢
          by_cases hon : (tr.it W n).kind = 3 ∧ (follow = true ∨ rest ≠ [])
          · have HCO : Hid (tr.cont W follow (8 - k) (.on pre n rest) = R) := Lib.hid (by rw [← j6, tr.look_on hk1 hch hon])
            obtain ⟨h3, hon⟩ := hon
            have h3' : ((tr.it W n).kind == 3) = true := by simpa using h3
            have HPT := Lib.hid (H.out.inv.to n m2)
            have hpre := HNM.out.pre.1
            have HFO : Hid (∀ wx Ax cx, Own wx w.heap.size 9 1 Ax pre.length cx (pre.map pa.sv) → Calls Tryd.prog 36 #[.slice Ax pre.length cx, .string (strOf (tr.it W n).to)] wx (StrsRes (pa.follow pre (tr.it W n).to) wx)) := Lib.hid (fun wx Ax cx ho => by
              have h := ref_PathFollow (pre.map strOf) Ax cx (tr.it W n).to wx (pa.names_rep ho) (by rw [List.length_map]; have := hpre.1; omega) (pa.short_map hpre) (by have := HPT.out; omega)
              rw [pa.lists_map, List.length_map] at h
              exact h)
            have HNA := Lib.hid (fun w2 (hb : Below wr.heap.size wr w2) => ref_names cur pre w2 (HAT.out w2 hb) HPC.out hM hcl (by have := hpre.1; omega))
            have HFOL : Hid (pa.follow pre (tr.it W n).to = pa.follow pre (tr.it W n).to) := Lib.hid rfl
            clear HJ j1 j2 j3 j4 j5 j6 hch hci hk1 n1 n2 m1 m2 m3 m4
            go_upto_region 10 with (first
              | (go_at_call 35; ((with_reducible refine (HCH.out _ (by exact bself _)).mono ?_); rintro e w2 ⟨rfl, hb2⟩; have HB2 := Lib.hid hb2; have hr2 := (HAT.out _ hb2).row; have hgl2 := ((HAT.out _ hb2).lt (.inr rfl)).2; have hWl2 := ((HAT.out _ hb2).lt (.inl rfl)).2; obtain ⟨_, _, _, p0, _, _, _, p4, _, _⟩ := HIT.out _ hb2; clear hb2))
              | fail)
            go_cut [52] (fun s52 wx => s52 = .bool true ∧ w2 = wx)
            case first =>
              cases follow
              · have hr1 : (0 : Int) < (rest.length : Int) := by
                  rcases hon with h | h
                  · cases h
                  · have := List.length_pos_iff.2 h; omega
                have hr1n : 0 < rest.length := by omega
                have hr1d : decide (0 < rest.length) = true := decide_eq_true hr1n
                go_wp2
                go_meet
                exact ⟨rfl, rfl⟩
              · go_wp2
                go_meet
                exact ⟨rfl, rfl⟩
            case rest =>
              obtain ⟨rfl, rfl⟩ := hcut
              clear p0
              by_cases hk8 : k = 8
              · subst hk8
                have HE := Lib.hid (HRno.out 13 HCO.out.symm)
                go_wp2
                go_ret2
                exact ⟨bnext HB.out HB2.out, HE.out⟩
              · have hk8' : ((k : Int) == 8) = false := beq_eq_false_iff_ne.2 (by omega)
                have hk7 : k < 8 := by omega
                have hw1 : IntKind.i64.wrap ((k : Int) + 1) = (k : Int) + 1 := IntWalk.i64_in _ (by omega)
                have HCN : Hid ((match pa.follow pre (tr.it W n).to with
                    | .error e => .error e
                    | .ok o => if 12 < (o ++ rest).length then .error 9 else tr.find W follow (8 - (k + 1)) (o ++ rest)) = R) := Lib.hid (by
                  have h := HCO.out
                  rw [show 8 - k = (8 - (k + 1)) + 1 by omega] at h
                  exact h)
                have HER := Lib.hid (fun q => pa.follow_err (o := pre) (p := (tr.it W n).to) (c := q))
                have HNX := Lib.hid (fun o (h : pa.follow pre (tr.it W n).to = .ok o) => pa.follow_nms h hpre)
                have HAT2 := Lib.hid (HAT.out _ HB2.out)
                have HB02 : Hid (Below w.heap.size w w2) := Lib.hid (bnext HB.out HB2.out)
                have HSS : Hid (∀ wx, Below w2.heap.size w2 wx → wx.cell? ⟨Wb, 0, none⟩ = some (.slice (some ⟨g, 0, none⟩) W.length c0) ∧ wx.cell? ⟨g, n * 6 + 4, none⟩ = some (.string (strOf (tr.it W n).to))) := Lib.hid (fun wx hb => ⟨(HAT2.out.next hb).row, by
                  obtain ⟨_, _, _, _, _, _, _, z4, _, _⟩ := (HAT2.out.next hb).at hnl
                  exact z4⟩)
                have HNA2 : Hid (∀ wx, Below w2.heap.size w2 wx → Calls Tryd.prog 37 #[.pointer (some ⟨Wb, 0, none⟩), .int .i64 (cur : Int)] wx fun e w' => ∃ A d, e = .returned (.slice A pre.length d) ∧ Own w' wx.heap.size 9 1 A pre.length d (pre.map pa.sv) ∧ Below wx.heap.size wx w') := Lib.hid (fun wx hb => HNA.out wx (HB2.out.trans (hb.mono HB2.out.size)))
                have hws : w.heap.size ≤ w2.heap.size := HB02.out.size
                have HRE2 : Hid (∀ wx, Below w2.heap.size w2 wx → NmRep wx (cutA (some ⟨bb, oo, none⟩) c1 1 1) (c1 - 1) rest) := Lib.hid (fun wx hb => HRE.out wx (HB2.out.trans (hb.mono HB2.out.size)))
                have hrs12 : rest.length ≤ 12 := HNM.out.pre.2.cons.2.1
                have HRS : Hid (Nms rest) := Lib.hid HNM.out.pre.2.cons.2
                have hb22 := bself w2
                generalize (tr.it W n).to = tg at *
                generalize pa.follow pre tg = r at *
                clear hpre hon hb22
                cases r with
                | error ec =>
                  have hec1 : (ec != 0) = true := by simpa using HER.out ec rfl
                  have HE := Lib.hid (HRno.out ec HCN.out.symm)
                  have HFO : Hid (∀ wx Ax cx, Own wx w.heap.size 9 1 Ax pre.length cx (pre.map pa.sv) → Calls Tryd.prog 36 #[.slice Ax pre.length cx, .string (strOf tg)] wx fun e w' => ∃ A2 c2, e = .returned (.tuple #[.slice A2 0 c2, .int .i64 ec]) ∧ True ∧ Below wx.heap.size wx w') := Lib.hid (fun wx Ax cx ho => (HFO.out wx Ax cx ho).mono (fun e w' ⟨A2, c2, h1, _, h3⟩ => ⟨A2, c2, h1, trivial, h3⟩))
                  go_upto_region 14 with (fail)
                  --<fa
                  refine wp_region_tail [] (fun wx => wx.cell? ⟨Wb, 0, none⟩ = some (.slice (some ⟨g, 0, none⟩) W.length c0) ∧ wx.cell? ⟨g, n * 6 + 4, none⟩ = some (.string (strOf tg))) (by kernel_rfl) (HSS.out w2 (bself _)) ?_
                  intro hHeld
                  refine wpAnyT_pure (i := 0) (v := ?_) rfl (by kernel_rfl) (by kernel_rfl) (by kernel_rfl) (fun _ _ _ h => h) (.inl ⟨by kernel_rfl, ?_⟩) (fun _ => hHeld) ?_ (by decide)
                  rotate_left
                  · intro w9; go_simp; try with_reducible rfl
                  try simp only [Act.put, List.getElem_toArray, List.getElem_cons_succ, List.getElem_cons_zero, List.setIfInBounds_toArray, List.set_cons_zero, List.set_cons_succ]
                  refine wpAnyT_pure (i := 1) (v := ?_) rfl (by kernel_rfl) (by kernel_rfl) (by kernel_rfl) (fun _ _ _ h => h) (.inl ⟨by kernel_rfl, ?_⟩) (fun _ => hHeld) ?_ (by decide)
                  rotate_left
                  · intro w9; go_simp; try with_reducible rfl
                  try simp only [Act.put, List.getElem_toArray, List.getElem_cons_succ, List.getElem_cons_zero, List.setIfInBounds_toArray, List.set_cons_zero, List.set_cons_succ]
                  refine wpAnyT_pure (i := 3) (v := ?_) rfl (by kernel_rfl) (by kernel_rfl) (by kernel_rfl) (fun _ _ _ h => h) (.inl ⟨by kernel_rfl, ?_⟩) (fun _ => hHeld) ?_ (by decide)
                  rotate_left
                  · intro w9; go_simp; try with_reducible rfl
                  try simp only [Act.put, List.getElem_toArray, List.getElem_cons_succ, List.getElem_cons_zero, List.setIfInBounds_toArray, List.set_cons_zero, List.set_cons_succ]
                  refine wpAnyT_pure (i := 4) (v := ?_) rfl (by kernel_rfl) (by kernel_rfl) (by kernel_rfl) (fun _ _ _ h => h) (.inl ⟨by kernel_rfl, ?_⟩) (fun _ => hHeld) ?_ (by decide)
                  rotate_left
                  · intro w9; go_simp; try with_reducible rfl
                  try simp only [Act.put, List.getElem_toArray, List.getElem_cons_succ, List.getElem_cons_zero, List.setIfInBounds_toArray, List.set_cons_zero, List.set_cons_succ]
                  refine wpAnyT_pure (i := 5) (v := ?_) rfl (by kernel_rfl) (by kernel_rfl) (by kernel_rfl) (fun _ _ _ h => h) (.inl ⟨by kernel_rfl, ?_⟩) (fun _ => hHeld) ?_ (by decide)
                  rotate_left
                  · intro w9; go_simp; try with_reducible rfl
                  try simp only [Act.put, List.getElem_toArray, List.getElem_cons_succ, List.getElem_cons_zero, List.setIfInBounds_toArray, List.set_cons_zero, List.set_cons_succ]
                  refine wpAnyT_pure (i := 7) (v := ?_) rfl (by kernel_rfl) (by kernel_rfl) (by kernel_rfl) (fun _ _ _ h => h) (.inl ⟨by kernel_rfl, ?_⟩) (fun _ => hHeld) ?_ (by decide)
                  rotate_left
                  · intro w9; go_simp; try with_reducible rfl
                  try simp only [Act.put, List.getElem_toArray, List.getElem_cons_succ, List.getElem_cons_zero, List.setIfInBounds_toArray, List.set_cons_zero, List.set_cons_succ]
                  refine wpAnyT_take (i := 6) [8, 9, 10, 11, 12, 13, 14, 15, 16] (v := ?_) rfl (by kernel_rfl) (by kernel_rfl) (by kernel_rfl) (by kernel_rfl) (fun _ _ _ h => h) (.inl ⟨by kernel_rfl, ?_⟩) hHeld ?_
                  rotate_left
                  · intro w9 hS9; (try dsimp only at hS9); obtain ⟨q1, q2⟩ := hS9; go_simp; try with_reducible rfl
                  try simp only [Act.put, List.getElem_toArray, List.getElem_cons_succ, List.getElem_cons_zero, List.setIfInBounds_toArray, List.set_cons_zero, List.set_cons_succ]
                  refine wpAnyT_pure (i := 8) (v := ?_) rfl (by kernel_rfl) (by kernel_rfl) (by kernel_rfl) (fun _ _ _ h => h) (.inl ⟨by kernel_rfl, ?_⟩) (fun _ => hHeld) ?_ (by decide)
                  rotate_left
                  · intro w9; go_simp; try with_reducible rfl
                  try simp only [Act.put, List.getElem_toArray, List.getElem_cons_succ, List.getElem_cons_zero, List.setIfInBounds_toArray, List.set_cons_zero, List.set_cons_succ]
                  refine wpAnyT_pure (i := 9) (v := ?_) rfl (by kernel_rfl) (by kernel_rfl) (by kernel_rfl) (fun _ _ _ h => h) (.inl ⟨by kernel_rfl, ?_⟩) (fun _ => hHeld) ?_ (by decide)
                  rotate_left
                  · intro w9; go_simp; try with_reducible rfl
                  try simp only [Act.put, List.getElem_toArray, List.getElem_cons_succ, List.getElem_cons_zero, List.setIfInBounds_toArray, List.set_cons_zero, List.set_cons_succ]
                  refine wpAnyT_take (i := 10) [11, 12, 13, 14, 15, 16] (v := ?_) rfl (by kernel_rfl) (by kernel_rfl) (by kernel_rfl) (by kernel_rfl) (fun _ _ _ h => h) (.inl ⟨by kernel_rfl, ?_⟩) hHeld ?_
                  rotate_left
                  · intro w9 hS9; (try dsimp only at hS9); obtain ⟨q1, q2⟩ := hS9; go_simp; try with_reducible rfl
                  try simp only [Act.put, List.getElem_toArray, List.getElem_cons_succ, List.getElem_cons_zero, List.setIfInBounds_toArray, List.set_cons_zero, List.set_cons_succ]
                  refine wpAnyT_next (i := 2) (by kernel_rfl) rfl ?_
                  intro K hK
                  go_simp
                  go_at_call 37
                  refine (HNA2.out _ (by exact (by repeat (first | (with_reducible exact Below.refl _ _) | (with_reducible assumption) | (with_reducible refine bset ?_ ?_ _) | (with_reducible refine balloc ?_ _) | (with_reducible refine Below.drew ?_) | (with_reducible refine bdrewN ?_ _) | (with_reducible refine bnext ?_ (by with_reducible assumption)) | exact Nat.le_refl _ | (simp; done) | omega | (simp; omega))))).mono ?_
                  rintro e w6 ⟨A6, d6, rfl, ho6, hb6⟩
                  have HO6 := Lib.hid ho6
                  have HB6 : Hid (Below w2.heap.size w2 w6) := Lib.hid (by refine bnext ?_ hb6; exact (by repeat (first | (with_reducible exact Below.refl _ _) | (with_reducible assumption) | (with_reducible refine bset ?_ ?_ _) | (with_reducible refine balloc ?_ _) | (with_reducible refine Below.drew ?_) | (with_reducible refine bdrewN ?_ _) | (with_reducible refine bnext ?_ (by with_reducible assumption)) | exact Nat.le_refl _ | (simp; done) | omega | (simp; omega))))
                  have hs6 := HSS.out w6 HB6.out
                  clear ho6 hb6
                  go_simp
                  have hHeld2 := hs6
                  refine hK.out _ _ (fun _ => hHeld2) ?_
                  clear hK K hHeld
                  have hHeld := hHeld2
                  clear hHeld2
                  try simp only [Act.put, List.getElem_toArray, List.getElem_cons_succ, List.getElem_cons_zero, List.setIfInBounds_toArray, List.set_cons_zero, List.set_cons_succ]
                  refine wpAnyT_next (i := 11) (by kernel_rfl) rfl ?_
                  intro K hK
                  go_simp
                  go_at_call 36
                  refine (HFO.out _ _ _ (HO6.out.base_le hws)).mono ?_
                  rintro e w7 ⟨A7, d7, rfl, ho7, hb7⟩
                  have HO7 := Lib.hid ho7
                  have HB7 : Hid (Below w2.heap.size w2 w7) := Lib.hid (bnext HB6.out hb7)
                  have hs7 := HSS.out w7 HB7.out
                  clear ho7 hb7
                  go_simp
                  have hHeld2 := hs7
                  refine hK.out _ _ (fun _ => hHeld2) ?_
                  clear hK K hHeld
                  have hHeld := hHeld2
                  clear hHeld2
                  try simp only [Act.put, List.getElem_toArray, List.getElem_cons_succ, List.getElem_cons_zero, List.setIfInBounds_toArray, List.set_cons_zero, List.set_cons_succ]
                  refine wpAnyT_pure (i := 12) (v := ?_) rfl (by kernel_rfl) (by kernel_rfl) (by kernel_rfl) (fun _ _ _ h => h) (.inl ⟨by kernel_rfl, ?_⟩) (fun _ => hHeld) ?_ (by decide)
                  rotate_left
                  · intro w9; go_simp; try with_reducible rfl
                  try simp only [Act.put, List.getElem_toArray, List.getElem_cons_succ, List.getElem_cons_zero, List.setIfInBounds_toArray, List.set_cons_zero, List.set_cons_succ]
                  refine wpAnyT_pure (i := 13) (v := ?_) rfl (by kernel_rfl) (by kernel_rfl) (by kernel_rfl) (fun _ _ _ h => h) (.inl ⟨by kernel_rfl, ?_⟩) (fun _ => hHeld) ?_ (by decide)
                  rotate_left
                  · intro w9; go_simp; try with_reducible rfl
                  try simp only [Act.put, List.getElem_toArray, List.getElem_cons_succ, List.getElem_cons_zero, List.setIfInBounds_toArray, List.set_cons_zero, List.set_cons_succ]
                  refine wpAnyT_pure (i := 14) (v := ?_) rfl (by kernel_rfl) (by kernel_rfl) (by kernel_rfl) (fun _ _ _ h => h) (.inl ⟨by kernel_rfl, ?_⟩) (fun _ => hHeld) ?_ (by decide)
                  rotate_left
                  · intro w9; go_simp; try with_reducible rfl
                  try simp only [Act.put, List.getElem_toArray, List.getElem_cons_succ, List.getElem_cons_zero, List.setIfInBounds_toArray, List.set_cons_zero, List.set_cons_succ]
                  refine wpAnyT_pure (i := 15) (v := ?_) rfl (by kernel_rfl) (by kernel_rfl) (by kernel_rfl) (fun _ _ _ h => h) (.inl ⟨by kernel_rfl, ?_⟩) (fun _ => hHeld) ?_ (by decide)
                  rotate_left
                  · intro w9; go_simp; try with_reducible rfl
                  try simp only [Act.put, List.getElem_toArray, List.getElem_cons_succ, List.getElem_cons_zero, List.setIfInBounds_toArray, List.set_cons_zero, List.set_cons_succ]
                  refine wpAnyT_pure (i := 16) (v := ?_) rfl (by kernel_rfl) (by kernel_rfl) (by kernel_rfl) (fun _ _ _ h => h) (.inl ⟨by kernel_rfl, ?_⟩) (fun _ => hHeld) ?_ (by decide)
                  rotate_left
                  · intro w9; go_simp; try with_reducible rfl
                  try simp only [Act.put, List.getElem_toArray, List.getElem_cons_succ, List.getElem_cons_zero, List.setIfInBounds_toArray, List.set_cons_zero, List.set_cons_succ]
                  refine wpAnyT_done (by kernel_rfl) ?_ _
                  go_wp2
                  go_ret2
                  exact ⟨HB02.out.trans (HB7.out.mono hws), HE.out⟩
                  --fa>
                | ok o =>
                  have hnms := HNX.out o rfl
                  have HON := Lib.hid hnms
                  have ho12 : o.length ≤ 12 := hnms.1
                  clear hnms
                  have HIF : Hid ((if 12 < (o ++ rest).length then .error 9 else tr.find W follow (8 - (k + 1)) (o ++ rest)) = R) := Lib.hid HCN.out
                  have HFO : Hid (∀ wx Ax cx, Own wx w.heap.size 9 1 Ax pre.length cx (pre.map pa.sv) → Calls Tryd.prog 36 #[.slice Ax pre.length cx, .string (strOf tg)] wx fun e w' => ∃ A2 c2, e = .returned (.tuple #[.slice A2 o.length c2, .int .i64 0]) ∧ Own w' wx.heap.size 9 1 A2 o.length c2 (o.map pa.sv) ∧ Below wx.heap.size wx w') := Lib.hid (fun wx Ax cx ho => HFO.out wx Ax cx ho)
                  go_upto_region 14 with (fail)
                  --<fb
                  refine wp_region_tail [] (fun wx => wx.cell? ⟨Wb, 0, none⟩ = some (.slice (some ⟨g, 0, none⟩) W.length c0) ∧ wx.cell? ⟨g, n * 6 + 4, none⟩ = some (.string (strOf tg))) (by kernel_rfl) (HSS.out w2 (bself _)) ?_
                  intro hHeld
                  refine wpAnyT_pure (i := 0) (v := ?_) rfl (by kernel_rfl) (by kernel_rfl) (by kernel_rfl) (fun _ _ _ h => h) (.inl ⟨by kernel_rfl, ?_⟩) (fun _ => hHeld) ?_ (by decide)
                  rotate_left
                  · intro w9; go_simp; try with_reducible rfl
                  try simp only [Act.put, List.getElem_toArray, List.getElem_cons_succ, List.getElem_cons_zero, List.setIfInBounds_toArray, List.set_cons_zero, List.set_cons_succ]
                  refine wpAnyT_pure (i := 1) (v := ?_) rfl (by kernel_rfl) (by kernel_rfl) (by kernel_rfl) (fun _ _ _ h => h) (.inl ⟨by kernel_rfl, ?_⟩) (fun _ => hHeld) ?_ (by decide)
                  rotate_left
                  · intro w9; go_simp; try with_reducible rfl
                  try simp only [Act.put, List.getElem_toArray, List.getElem_cons_succ, List.getElem_cons_zero, List.setIfInBounds_toArray, List.set_cons_zero, List.set_cons_succ]
                  refine wpAnyT_pure (i := 3) (v := ?_) rfl (by kernel_rfl) (by kernel_rfl) (by kernel_rfl) (fun _ _ _ h => h) (.inl ⟨by kernel_rfl, ?_⟩) (fun _ => hHeld) ?_ (by decide)
                  rotate_left
                  · intro w9; go_simp; try with_reducible rfl
                  try simp only [Act.put, List.getElem_toArray, List.getElem_cons_succ, List.getElem_cons_zero, List.setIfInBounds_toArray, List.set_cons_zero, List.set_cons_succ]
                  refine wpAnyT_pure (i := 4) (v := ?_) rfl (by kernel_rfl) (by kernel_rfl) (by kernel_rfl) (fun _ _ _ h => h) (.inl ⟨by kernel_rfl, ?_⟩) (fun _ => hHeld) ?_ (by decide)
                  rotate_left
                  · intro w9; go_simp; try with_reducible rfl
                  try simp only [Act.put, List.getElem_toArray, List.getElem_cons_succ, List.getElem_cons_zero, List.setIfInBounds_toArray, List.set_cons_zero, List.set_cons_succ]
                  refine wpAnyT_pure (i := 5) (v := ?_) rfl (by kernel_rfl) (by kernel_rfl) (by kernel_rfl) (fun _ _ _ h => h) (.inl ⟨by kernel_rfl, ?_⟩) (fun _ => hHeld) ?_ (by decide)
                  rotate_left
                  · intro w9; go_simp; try with_reducible rfl
                  try simp only [Act.put, List.getElem_toArray, List.getElem_cons_succ, List.getElem_cons_zero, List.setIfInBounds_toArray, List.set_cons_zero, List.set_cons_succ]
                  refine wpAnyT_pure (i := 7) (v := ?_) rfl (by kernel_rfl) (by kernel_rfl) (by kernel_rfl) (fun _ _ _ h => h) (.inl ⟨by kernel_rfl, ?_⟩) (fun _ => hHeld) ?_ (by decide)
                  rotate_left
                  · intro w9; go_simp; try with_reducible rfl
                  try simp only [Act.put, List.getElem_toArray, List.getElem_cons_succ, List.getElem_cons_zero, List.setIfInBounds_toArray, List.set_cons_zero, List.set_cons_succ]
                  refine wpAnyT_take (i := 6) [8, 9, 10, 11, 12, 13, 14, 15, 16] (v := ?_) rfl (by kernel_rfl) (by kernel_rfl) (by kernel_rfl) (by kernel_rfl) (fun _ _ _ h => h) (.inl ⟨by kernel_rfl, ?_⟩) hHeld ?_
                  rotate_left
                  · intro w9 hS9; (try dsimp only at hS9); obtain ⟨q1, q2⟩ := hS9; go_simp; try with_reducible rfl
                  try simp only [Act.put, List.getElem_toArray, List.getElem_cons_succ, List.getElem_cons_zero, List.setIfInBounds_toArray, List.set_cons_zero, List.set_cons_succ]
                  refine wpAnyT_pure (i := 8) (v := ?_) rfl (by kernel_rfl) (by kernel_rfl) (by kernel_rfl) (fun _ _ _ h => h) (.inl ⟨by kernel_rfl, ?_⟩) (fun _ => hHeld) ?_ (by decide)
                  rotate_left
                  · intro w9; go_simp; try with_reducible rfl
                  try simp only [Act.put, List.getElem_toArray, List.getElem_cons_succ, List.getElem_cons_zero, List.setIfInBounds_toArray, List.set_cons_zero, List.set_cons_succ]
                  refine wpAnyT_pure (i := 9) (v := ?_) rfl (by kernel_rfl) (by kernel_rfl) (by kernel_rfl) (fun _ _ _ h => h) (.inl ⟨by kernel_rfl, ?_⟩) (fun _ => hHeld) ?_ (by decide)
                  rotate_left
                  · intro w9; go_simp; try with_reducible rfl
                  try simp only [Act.put, List.getElem_toArray, List.getElem_cons_succ, List.getElem_cons_zero, List.setIfInBounds_toArray, List.set_cons_zero, List.set_cons_succ]
                  refine wpAnyT_take (i := 10) [11, 12, 13, 14, 15, 16] (v := ?_) rfl (by kernel_rfl) (by kernel_rfl) (by kernel_rfl) (by kernel_rfl) (fun _ _ _ h => h) (.inl ⟨by kernel_rfl, ?_⟩) hHeld ?_
                  rotate_left
                  · intro w9 hS9; (try dsimp only at hS9); obtain ⟨q1, q2⟩ := hS9; go_simp; try with_reducible rfl
                  try simp only [Act.put, List.getElem_toArray, List.getElem_cons_succ, List.getElem_cons_zero, List.setIfInBounds_toArray, List.set_cons_zero, List.set_cons_succ]
                  refine wpAnyT_next (i := 2) (by kernel_rfl) rfl ?_
                  intro K hK
                  go_simp
                  go_at_call 37
                  refine (HNA2.out _ (by exact (by repeat (first | (with_reducible exact Below.refl _ _) | (with_reducible assumption) | (with_reducible refine bset ?_ ?_ _) | (with_reducible refine balloc ?_ _) | (with_reducible refine Below.drew ?_) | (with_reducible refine bdrewN ?_ _) | (with_reducible refine bnext ?_ (by with_reducible assumption)) | exact Nat.le_refl _ | (simp; done) | omega | (simp; omega))))).mono ?_
                  rintro e w6 ⟨A6, d6, rfl, ho6, hb6⟩
                  have HO6 := Lib.hid ho6
                  have HB6 : Hid (Below w2.heap.size w2 w6) := Lib.hid (by refine bnext ?_ hb6; exact (by repeat (first | (with_reducible exact Below.refl _ _) | (with_reducible assumption) | (with_reducible refine bset ?_ ?_ _) | (with_reducible refine balloc ?_ _) | (with_reducible refine Below.drew ?_) | (with_reducible refine bdrewN ?_ _) | (with_reducible refine bnext ?_ (by with_reducible assumption)) | exact Nat.le_refl _ | (simp; done) | omega | (simp; omega))))
                  have hs6 := HSS.out w6 HB6.out
                  clear ho6 hb6
                  go_simp
                  have hHeld2 := hs6
                  refine hK.out _ _ (fun _ => hHeld2) ?_
                  clear hK K hHeld
                  have hHeld := hHeld2
                  clear hHeld2
                  try simp only [Act.put, List.getElem_toArray, List.getElem_cons_succ, List.getElem_cons_zero, List.setIfInBounds_toArray, List.set_cons_zero, List.set_cons_succ]
                  refine wpAnyT_next (i := 11) (by kernel_rfl) rfl ?_
                  intro K hK
                  go_simp
                  go_at_call 36
                  refine (HFO.out _ _ _ (HO6.out.base_le hws)).mono ?_
                  rintro e w7 ⟨A7, d7, rfl, ho7, hb7⟩
                  have HO7 := Lib.hid ho7
                  have HB7 : Hid (Below w2.heap.size w2 w7) := Lib.hid (bnext HB6.out hb7)
                  have hs7 := HSS.out w7 HB7.out
                  clear ho7 hb7
                  go_simp
                  have hHeld2 := hs7
                  refine hK.out _ _ (fun _ => hHeld2) ?_
                  clear hK K hHeld
                  have hHeld := hHeld2
                  clear hHeld2
                  try simp only [Act.put, List.getElem_toArray, List.getElem_cons_succ, List.getElem_cons_zero, List.setIfInBounds_toArray, List.set_cons_zero, List.set_cons_succ]
                  refine wpAnyT_pure (i := 12) (v := ?_) rfl (by kernel_rfl) (by kernel_rfl) (by kernel_rfl) (fun _ _ _ h => h) (.inl ⟨by kernel_rfl, ?_⟩) (fun _ => hHeld) ?_ (by decide)
                  rotate_left
                  · intro w9; go_simp; try with_reducible rfl
                  try simp only [Act.put, List.getElem_toArray, List.getElem_cons_succ, List.getElem_cons_zero, List.setIfInBounds_toArray, List.set_cons_zero, List.set_cons_succ]
                  refine wpAnyT_pure (i := 13) (v := ?_) rfl (by kernel_rfl) (by kernel_rfl) (by kernel_rfl) (fun _ _ _ h => h) (.inl ⟨by kernel_rfl, ?_⟩) (fun _ => hHeld) ?_ (by decide)
                  rotate_left
                  · intro w9; go_simp; try with_reducible rfl
                  try simp only [Act.put, List.getElem_toArray, List.getElem_cons_succ, List.getElem_cons_zero, List.setIfInBounds_toArray, List.set_cons_zero, List.set_cons_succ]
                  refine wpAnyT_pure (i := 14) (v := ?_) rfl (by kernel_rfl) (by kernel_rfl) (by kernel_rfl) (fun _ _ _ h => h) (.inl ⟨by kernel_rfl, ?_⟩) (fun _ => hHeld) ?_ (by decide)
                  rotate_left
                  · intro w9; go_simp; try with_reducible rfl
                  try simp only [Act.put, List.getElem_toArray, List.getElem_cons_succ, List.getElem_cons_zero, List.setIfInBounds_toArray, List.set_cons_zero, List.set_cons_succ]
                  refine wpAnyT_pure (i := 15) (v := ?_) rfl (by kernel_rfl) (by kernel_rfl) (by kernel_rfl) (fun _ _ _ h => h) (.inl ⟨by kernel_rfl, ?_⟩) (fun _ => hHeld) ?_ (by decide)
                  rotate_left
                  · intro w9; go_simp; try with_reducible rfl
                  try simp only [Act.put, List.getElem_toArray, List.getElem_cons_succ, List.getElem_cons_zero, List.setIfInBounds_toArray, List.set_cons_zero, List.set_cons_succ]
                  refine wpAnyT_pure (i := 16) (v := ?_) rfl (by kernel_rfl) (by kernel_rfl) (by kernel_rfl) (fun _ _ _ h => h) (.inl ⟨by kernel_rfl, ?_⟩) (fun _ => hHeld) ?_ (by decide)
                  rotate_left
                  · intro w9; go_simp; try with_reducible rfl
                  try simp only [Act.put, List.getElem_toArray, List.getElem_cons_succ, List.getElem_cons_zero, List.setIfInBounds_toArray, List.set_cons_zero, List.set_cons_succ]
                  refine wpAnyT_done (by kernel_rfl) ?_ _
                  have HO7 := Lib.hid (HO7.out.base_le (show w.heap.size ≤ _ from Nat.le_trans hws HB6.out.size))
                  have HC7 := Lib.hid HO7.out.cells
                  have HW7 := Lib.hid (Nat.le_trans hws HB7.out.size)
                  have hw7 : w.heap.size ≤ w7.heap.size := HW7.out
                  by_cases h13 : 12 < o.length + rest.length
                  · have HE9 := Lib.hid (HRno.out 9 (by rw [← HIF.out, if_pos (by rw [List.length_append]; exact h13)]))
                    have h13' : (12 : Int) < ((o.length + rest.length : Nat) : Int) := by omega
                    have h13s : (12 : Int) < (o.length : Int) + (rest.length : Int) := by omega
                    go_wp2_with (first
                      | (at_builtin; first | (refine wp_app _ rfl _ _ _ rfl elemStr w.heap.size none 0 0 [] rfl (Own.nil _ _ _ _) A7 o.length d7 (o.map pa.sv) rfl (by rw [List.length_map, Nat.mul_one]) HC7.out (pa.one o) (by omega) (by unfold maxLen; omega) hw7 ?_; intro A8 d8 w8 hO8 hg8; have HO8 : Hid (Own w8 w.heap.size 9 1 A8 o.length d8 (o.map pa.sv)) := Lib.hid (by simpa using hO8); have HB8 : Hid (Below w2.heap.size w2 w8) := Lib.hid (HB7.out.trans (hg8.below HB7.out.size (fun j hj => by cases hj))); have HC8 := Lib.hid ((HRE2.out _ HB8.out)); have hw8 : w.heap.size ≤ w8.heap.size := Nat.le_trans hws HB8.out.size; clear hO8 hg8; rw [Nat.zero_add]) | (refine wp_app _ rfl _ _ _ rfl elemStr w.heap.size A8 o.length d8 (o.map pa.sv) rfl HO8.out _ rest.length _ (rest.map pa.sv) rfl (by rw [List.length_map, Nat.mul_one]) (by have h := pa.str_cells HC8.out; rw [List.map_map] at h; exact h) (pa.one rest) (by omega) (by unfold maxLen; omega) hw8 ?_; intro A9 d9 w9 hO9 hg9; have HO9 := Lib.hid hO9; have HB9 : Hid (Below w.heap.size w w9) := Lib.hid ((HB02.out.trans (HB8.out.mono hws)).trans (hg9.below hw8 (fun j hj => (HO8.out.lt j hj).1))); clear hO9 hg9))
                      | fail)
                    go_ret2
                    exact ⟨HB9.out, HE9.out⟩
                  · have HE9 : Hid (tr.find W follow (8 - (k + 1)) (o ++ rest) = R) := Lib.hid (by rw [← HIF.out, if_neg (by rw [List.length_append]; exact h13)])
                    have h13' : ¬ (12 : Int) < ((o.length + rest.length : Nat) : Int) := by omega
                    have h13s : ¬ (12 : Int) < (o.length : Int) + (rest.length : Int) := by omega
                    go_wp2_with (first
                      | (at_builtin; first | (refine wp_app _ rfl _ _ _ rfl elemStr w.heap.size none 0 0 [] rfl (Own.nil _ _ _ _) A7 o.length d7 (o.map pa.sv) rfl (by rw [List.length_map, Nat.mul_one]) HC7.out (pa.one o) (by omega) (by unfold maxLen; omega) hw7 ?_; intro A8 d8 w8 hO8 hg8; have HO8 : Hid (Own w8 w.heap.size 9 1 A8 o.length d8 (o.map pa.sv)) := Lib.hid (by simpa using hO8); have HB8 : Hid (Below w2.heap.size w2 w8) := Lib.hid (HB7.out.trans (hg8.below HB7.out.size (fun j hj => by cases hj))); have HC8 := Lib.hid ((HRE2.out _ HB8.out)); have hw8 : w.heap.size ≤ w8.heap.size := Nat.le_trans hws HB8.out.size; clear hO8 hg8; rw [Nat.zero_add]) | (refine wp_app _ rfl _ _ _ rfl elemStr w.heap.size A8 o.length d8 (o.map pa.sv) rfl HO8.out _ rest.length _ (rest.map pa.sv) rfl (by rw [List.length_map, Nat.mul_one]) (by have h := pa.str_cells HC8.out; rw [List.map_map] at h; exact h) (pa.one rest) (by omega) (by unfold maxLen; omega) hw8 ?_; intro A9 d9 w9 hO9 hg9; have HO9 := Lib.hid hO9; have HB9 : Hid (Below w.heap.size w w9) := Lib.hid ((HB02.out.trans (HB8.out.mono hws)).trans (hg9.below hw8 (fun j hj => (HO8.out.lt j hj).1))); clear hO9 hg9))
                      | fail)
                    go_roundw
                    case rel =>
                      have e1 : (o ++ rest).length = o.length + rest.length := List.length_append
                      refine ⟨k + 1, 0, [], o ++ rest, A9, d9, by omega, by rw [e1]; omega, by rw [e1], rfl, by go_num, Lib.hid ⟨(NmRep.of (B := w.heap.size) (n := o.length + rest.length) (L := o ++ rest) (by rw [List.map_append]; exact HO9.out)).2, ⟨by rw [List.nil_append, e1]; omega, fun s hs => ?_⟩, .root, H.out.inv.root.2.1, HB9.out, by rw [← HE9.out, tr.find_cont]⟩⟩
                      rw [List.nil_append] at hs
                      rcases List.mem_append.1 hs with hs | hs
                      · exact HON.out.2 s hs
                      · exact HRS.out.2 s hs
                    case measure => simp [intOf]; omega
                  --fb>
          · have HGO : Hid (tr.cont W follow (8 - k) (tr.look W follow n (pre ++ [nm]) rest) = R) := Lib.hid (by rw [← j6, tr.look_go hk1 hch hon])
            have HST : Hid (∀ w2, Below wr.heap.size wr w2 → FiAt w B Wb M W follow R k n (pre ++ [nm]) rest (cutA (some ⟨bb, oo, none⟩) c1 1 1) (c1 - 1) w2) := Lib.hid (fun w2 hb => ⟨HRE.out w2 hb, by rw [List.append_assoc]; exact HNM.out, HPN.out, HML.out, bnext HB.out hb, HGO.out⟩)
            have hc3 : (tr.it W n).kind ≠ 3 ∨ ((tr.it W n).kind = 3 ∧ follow = false ∧ rest.length = 0) := by
              by_cases h3 : (tr.it W n).kind = 3
              · refine .inr ⟨h3, ?_, ?_⟩
                · cases follow; rfl; exact absurd ⟨h3, .inl rfl⟩ hon
                · rcases Nat.eq_zero_or_pos rest.length with h | h
                  · exact h
                  · exact absurd ⟨h3, .inr (List.length_pos_iff.1 h)⟩ hon
              · exact .inl h3
            clear HJ j1 j2 j3 j4 j5 j6 hch hci hk1 n1 n2 hon HPC m1 m2 m3 m4 HGO
            rcases hc3 with h3 | ⟨h3, rfl, hr0'⟩
            · have h3' : ((tr.it W n).kind == 3) = false := by simpa using h3
              clear h3
              go_wp2_with (first
                | (go_at_call 35; ((with_reducible refine (HCH.out _ (by exact bself _)).mono ?_); rintro e w2 ⟨rfl, hb2⟩; have HB2 := Lib.hid hb2; have hr2 := (HAT.out _ hb2).row; have hgl2 := ((HAT.out _ hb2).lt (.inr rfl)).2; have hWl2 := ((HAT.out _ hb2).lt (.inl rfl)).2; obtain ⟨_, _, _, p0, _, _, _, _, _, _⟩ := HIT.out _ hb2; clear hb2))
                | fail)
              go_roundw
              case rel => exact ⟨k, n, pre ++ [nm], rest, _, _, hk, by omega, rfl, rfl, rfl, Lib.hid (HST.out _ HB2.out)⟩
              case measure => simp
            · have h3' : ((tr.it W n).kind == 3) = true := by simpa using h3
              have hr1 : ¬ (0 : Int) < (rest.length : Int) := by omega
              have hr2' : ¬ 0 < rest.length := by omega
              clear h3 hr0'
              go_wp2_with (first
                | (go_at_call 35; ((with_reducible refine (HCH.out _ (by exact bself _)).mono ?_); rintro e w2 ⟨rfl, hb2⟩; have HB2 := Lib.hid hb2; have hr2 := (HAT.out _ hb2).row; have hgl2 := ((HAT.out _ hb2).lt (.inr rfl)).2; have hWl2 := ((HAT.out _ hb2).lt (.inl rfl)).2; obtain ⟨_, _, _, p0, _, _, _, _, _, _⟩ := HIT.out _ hb2; clear hb2))
                | fail)
              go_roundw
              case rel => exact ⟨k, n, pre ++ [nm], rest, _, _, hk, by omega, rfl, rfl, rfl, Lib.hid (HST.out _ HB2.out)⟩
              case measure => simp
      · have HE := Lib.hid (HRno.out 15 (by rw [← j6, tr.look_file hk1]; cases 8 - k <;> rfl))
        have hk1' : ((tr.it W cur).kind != 1) = true := by simpa using hk1
        clear HJ j1 j2 j3 j4 j5 j6 hk1 n1 n2
        go_wp2
        go_ret2
        exact ⟨HB.out, HE.out⟩
end Go.Proofs.YtlcjdlnhniemcaaDoor
