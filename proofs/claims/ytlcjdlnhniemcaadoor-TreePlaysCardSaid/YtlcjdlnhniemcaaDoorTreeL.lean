/- The walk of the law TreePlays. No condition. -/
import Derived.Test.YtlcjdlnhniemcaaDoorTreeR15
namespace Go.Proofs.YtlcjdlnhniemcaaDoor
open Go.RowKit
set_option linter.unusedSimpArgs false
set_option linter.unusedVariables false

theorem ref_Played_res (l : List Act_) (A : Option Addr) (c : Nat) (w : World) (hl : SlRep Act_.rep w (· < w.heap.size) l A c) (hlen : l.length ≤ 140737488351232) (hd : ∀ a ∈ l, IntOk a.at_ ∧ IntOk a.count ∧ a.data.length ≤ 140737488351232 ∧ a.path.size ≤ 140737488351232 ∧ a.to.size ≤ 140737488351232) :
    Calls Tryd.prog 5 #[.slice A l.length c] w (RowsRes Seen.rep (tr.play l) w) := by
  by_cases h : 300 < l.length
  · refine (ref_Played_long _ c A w h hlen).mono ?_
    rintro e w' ⟨rfl, hb⟩
    exact RowsRes.no (by unfold tr.play; rw [if_pos h]) hb
  · exact ref_Played_ok l A c w hl (by omega) hd
set_option maxRecDepth 100000 in
set_option maxHeartbeats 2000000 in
theorem law_sameSeen (x : Seen) (A1 A2 A3 A4 : Option Addr) (c1 c2 c3 c4 : Nat) (S S' : Nat → Prop) (w : World) (h1 : SlRep Rep.u8 w S x.data A1 c1) (h2 : SlRep Rep.str w S x.names A2 c2) (h3 : SlRep Rep.u8 w S' x.data A3 c3) (h4 : SlRep Rep.str w S' x.names A4 c4) (hS : ∀ k, S k → k < w.heap.size) (hS' : ∀ k, S' k → k < w.heap.size) :
    Calls Tryd.prog 6 #[.agg #[.int .i64 x.code, .int .i64 x.kind, .int .i64 x.size, .slice A1 x.data.length c1, .slice A2 x.names.length c2], .agg #[.int .i64 x.code, .int .i64 x.kind, .int .i64 x.size, .slice A3 x.data.length c3, .slice A4 x.names.length c4]] w fun e w' => e = .returned (.bool true) ∧ Below w.heap.size w w' := by
  have hd : x.data.length ≤ 9223372036854775807 := by have := h1.1; have := h1.2.1; unfold maxLen at this; omega
  have hn : x.names.length ≤ 9223372036854775807 := by have := h2.1; have := h2.2.1; unfold maxLen at this; omega
  obtain ⟨w1, hw1⟩ : ∃ w1, w1 = (w.alloc (.cells #[.int .i64 x.code, .int .i64 x.kind, .int .i64 x.size, .slice A1 x.data.length c1, .slice A2 x.names.length c2] 31)).alloc (.cells #[.int .i64 x.code, .int .i64 x.kind, .int .i64 x.size, .slice A3 x.data.length c3, .slice A4 x.names.length c4] 31) := ⟨_, rfl⟩
  have hb1 : Below w.heap.size w w1 := by rw [hw1]; exact balloc (balloc (bself w) _) _
  have hz1 : w1.heap.size = w.heap.size + 1 + 1 := by rw [hw1]; simp
  have HA : Hid (BlkA w1 w.heap.size 31 #[.int .i64 x.code, .int .i64 x.kind, .int .i64 x.size, .slice A1 x.data.length c1, .slice A2 x.names.length c2]) := Lib.hid (by rw [hw1]; exact (BlkA.new _ _ _).alloc _)
  have HB : Hid (BlkA w1 (w.heap.size + 1) 31 #[.int .i64 x.code, .int .i64 x.kind, .int .i64 x.size, .slice A3 x.data.length c3, .slice A4 x.names.length c4]) := Lib.hid (by
    rw [hw1]
    have h := BlkA.new (w.alloc (.cells #[.int .i64 x.code, .int .i64 x.kind, .int .i64 x.size, .slice A1 x.data.length c1, .slice A2 x.names.length c2] 31)) 31 #[.int .i64 x.code, .int .i64 x.kind, .int .i64 x.size, .slice A3 x.data.length c3, .slice A4 x.names.length c4]
    rw [World.size_alloc] at h
    exact h)
  have HSB := Lib.hid (fun wx (hb : Below w.heap.size w wx) => law_sameBytes x.data A1 A3 c1 c3 (· < w.heap.size) (· < w.heap.size) wx (h1.keep fun q hq => ⟨hS q hq, hb.block q (hS q hq)⟩) (h3.keep fun q hq => ⟨hS' q hq, hb.block q (hS' q hq)⟩) hd)
  have HST := Lib.hid (fun wx (hb : Below w.heap.size w wx) => law_sameTexts x.names A2 A4 c2 c4 (· < w.heap.size) (· < w.heap.size) wx (h2.keep fun q hq => ⟨hS q hq, hb.block q (hS q hq)⟩) (h4.keep fun q hq => ⟨hS' q hq, hb.block q (hS' q hq)⟩) hn)
  have a1 := HA.out.get
  have a2 := HB.out.get
  have l1 := HA.out.lt
  have l2 := HB.out.lt
  have HB1 := Lib.hid hb1
  clear h1 h2 h3 h4 hb1 hz1
  obtain ⟨xc, xk, xs, xd, xn⟩ := x
  simp only at *
  have hbc : (xc == xc) = true := by simp
  have hbk : (xk == xk) = true := by simp
  have hbs : (xs == xs) = true := by simp
  go_enter Tryd.func6, Tryd.ntmps6
  go_upto_region 1 with (fail)
  rw [← hw1]
  clear hw1
  go_wp2_with (first
    | (go_at_call 11; ((with_reducible refine (HSB.out _ HB1.out).mono ?_); rintro e w2 ⟨rfl, hb2⟩; have HB2 : Hid (Below w.heap.size w w2) := Lib.hid (HB1.out.trans (hb2.mono HB1.out.size)); have a3 := (HA.out.next hb2).get; have a4 := (HB.out.next hb2).get; have l3 := (HA.out.next hb2).lt; have l4 := (HB.out.next hb2).lt; clear hb2))
    | (go_at_call 12; ((with_reducible refine (HST.out _ HB2.out).mono ?_); rintro e w3 ⟨rfl, hb3⟩; have HB3 : Hid (Below w.heap.size w w3) := Lib.hid (HB2.out.trans (hb3.mono HB2.out.size)); clear hb3))
    | fail)
  go_ret
  exact ⟨rfl, HB3.out⟩
def tr.zs : Seen := ⟨0, 0, 0, [], []⟩
set_option maxRecDepth 100000 in
set_option maxHeartbeats 4000000 in
theorem lawTreePlays_walk {w : World} (l : List Act_) (A : Option Addr) (c : Nat) (hl : SlRep Act_.rep w (· < w.heap.size) l A c) (hok : AllOk 80 Act_.ok l) :
    Calls Tryd.prog 3 #[.slice A l.length c] w fun e w' => e = .returned (.bool true) ∧ Below w.heap.size w w' := by
  have hn : l.length ≤ 140737488351232 := by have := hok.2; omega
  have hd : ∀ a ∈ l, IntOk a.at_ ∧ IntOk a.count ∧ a.data.length ≤ 140737488351232 ∧ a.path.size ≤ 140737488351232 ∧ a.to.size ≤ 140737488351232 := fun a ha => by
    obtain ⟨_, h1, h2, h3, h4, h5⟩ := hok.1 a ha
    exact ⟨h3, h4, by have := h5.2; omega, h1, h2⟩
  have HL := Lib.hid hl
  have HD := Lib.hid hd
  clear hl hok hd
  go_enter Tryd.func3, Tryd.ntmps3
  go_wp2_with fail
  refine (tree_Play_res l A c w HL.out hn HD.out).mono ?_
  rintro e w1 ⟨B1, d1, rfl, ho1, hb1⟩
  have HO1 := Lib.hid ho1
  clear ho1
  go_wp2_with fail
  refine (ref_Played_res l A c w1 (HL.out.next hb1) hn HD.out).mono ?_
  rintro e w2 ⟨B2, d2, rfl, ho2, hb2⟩
  have R1 : Hid (SlRep Seen.rep w2 (· < w2.heap.size) (exL (tr.play l)) B1 d1) := Lib.hid (HO1.out.keep fun q hq => ⟨Nat.lt_of_lt_of_le hq.2 hb2.size, hb2.block q hq.2⟩)
  have R2 : Hid (SlRep Seen.rep w2 (· < w2.heap.size) (exL (tr.play l)) B2 d2) := Lib.hid (ho2.keep fun q hq => ⟨hq.2, rfl⟩)
  have hmo : (exL (tr.play l)).length ≤ 9223372036854775807 := by have := ho2.1; have := ho2.2.1; unfold maxLen at this; omega
  have hB2 : Below w.heap.size w w2 := bnext hb1 hb2
  clear ho2 HO1 hb1 hb2 HL HD
  generalize exL (tr.play l) = o at *
  generalize exC (tr.play l) = er at *
  go_wp2
  go_loopw [7] (fun i wr => ∃ k : Nat, k ≤ o.length ∧ i = .int .i64 k ∧ Below w2.heap.size w2 wr) (fun i _ => o.length - (intOf i).toNat)
  case atStart => exact ⟨0, by omega, rfl, Below.refl _ _⟩
  case round =>
    obtain ⟨k, hk, rfl, hB⟩ := hrel
    rename World => wr
    by_cases hlt : k < o.length
    · obtain ⟨b1, o1, rfl, hb1, A1, c1, A2, c2, p0, p1, p2, p3, p4, s1, s2⟩ := Seen.cells_at tr.zs (R1.out.below hB) hlt
      obtain ⟨b2, o2, rfl, hb2, A3, c3, A4, c4, q0, q1, q2, q3, q4, s3, s4⟩ := Seen.cells_at tr.zs (R2.out.below hB) hlt
      have hlt' : (k : Int) < (o.length : Int) := by omega
      have hz := hB.size
      have hb1' : b1 < wr.heap.size := Nat.lt_of_lt_of_le hb1 hz
      have hb2' : b2 < wr.heap.size := Nat.lt_of_lt_of_le hb2 hz
      have HSS : Hid (∀ wx, Below wr.heap.size wr wx → Calls Tryd.prog 6 #[.agg #[.int .i64 (o.getD k tr.zs).code, .int .i64 (o.getD k tr.zs).kind, .int .i64 (o.getD k tr.zs).size, .slice A1 (o.getD k tr.zs).data.length c1, .slice A2 (o.getD k tr.zs).names.length c2], .agg #[.int .i64 (o.getD k tr.zs).code, .int .i64 (o.getD k tr.zs).kind, .int .i64 (o.getD k tr.zs).size, .slice A3 (o.getD k tr.zs).data.length c3, .slice A4 (o.getD k tr.zs).names.length c4]] wx fun e w' => e = .returned (.bool true) ∧ Below wx.heap.size wx w') := Lib.hid (fun wx hb => law_sameSeen _ A1 A2 A3 A4 c1 c2 c3 c4 (· < w2.heap.size) (· < w2.heap.size) wx (s1.keep fun q hq => ⟨hq, hb.block q (Nat.lt_of_lt_of_le hq hz)⟩) (s2.keep fun q hq => ⟨hq, hb.block q (Nat.lt_of_lt_of_le hq hz)⟩) (s3.keep fun q hq => ⟨hq, hb.block q (Nat.lt_of_lt_of_le hq hz)⟩) (s4.keep fun q hq => ⟨hq, hb.block q (Nat.lt_of_lt_of_le hq hz)⟩) (fun q hq => Nat.lt_of_lt_of_le hq (Nat.le_trans hz hb.size)) (fun q hq => Nat.lt_of_lt_of_le hq (Nat.le_trans hz hb.size)))
      have HB := Lib.hid hB
      clear s1 s2 s3 s4 hB
      generalize o.getD k tr.zs = x at *
      obtain ⟨xc, xk, xs, xd, xn⟩ := x
      dsimp only at p0 p1 p2 p3 p4 q0 q1 q2 q3 q4 HSS
      go_upto_region 8 with (fail)
      --<law
      refine wp_region_tail [] (fun wx => Below wr.heap.size wr wx) (by kernel_rfl) (Below.drew (bself _)) ?_
      intro hHeld
      refine wpAnyT_pure (i := 0) (v := ?_) rfl (by kernel_rfl) (by kernel_rfl) (by kernel_rfl) (fun _ _ _ h => h) (.inl ⟨by kernel_rfl, ?_⟩) (fun _ => hHeld) ?_ (by decide)
      rotate_left
      · intro w9; go_simp; try with_reducible rfl
      try simp only [Act.put, List.getElem_toArray, List.getElem_cons_succ, List.getElem_cons_zero, List.setIfInBounds_toArray, List.set_cons_zero, List.set_cons_succ]
      refine wpAnyT_pure (i := 1) (v := ?_) rfl (by kernel_rfl) (by kernel_rfl) (by kernel_rfl) (fun _ _ _ h => h) (.inl ⟨by kernel_rfl, ?_⟩) (fun _ => hHeld) ?_ (by decide)
      rotate_left
      · intro w9; go_simp; try with_reducible rfl
      try simp only [Act.put, List.getElem_toArray, List.getElem_cons_succ, List.getElem_cons_zero, List.setIfInBounds_toArray, List.set_cons_zero, List.set_cons_succ]
      refine wpAnyT_pure (i := 2) (v := ?_) rfl (by kernel_rfl) (by kernel_rfl) (by kernel_rfl) (fun _ _ _ h => h) (.inl ⟨by kernel_rfl, ?_⟩) (fun _ => hHeld) ?_ (by decide)
      rotate_left
      · intro w9; go_simp; try with_reducible rfl
      try simp only [Act.put, List.getElem_toArray, List.getElem_cons_succ, List.getElem_cons_zero, List.setIfInBounds_toArray, List.set_cons_zero, List.set_cons_succ]
      refine wpAnyT_pure (i := 4) (v := ?_) rfl (by kernel_rfl) (by kernel_rfl) (by kernel_rfl) (fun _ _ _ h => h) (.inl ⟨by kernel_rfl, ?_⟩) (fun _ => hHeld) ?_ (by decide)
      rotate_left
      · intro w9; go_simp; try with_reducible rfl
      try simp only [Act.put, List.getElem_toArray, List.getElem_cons_succ, List.getElem_cons_zero, List.setIfInBounds_toArray, List.set_cons_zero, List.set_cons_succ]
      refine wpAnyT_pure (i := 5) (v := ?_) rfl (by kernel_rfl) (by kernel_rfl) (by kernel_rfl) (fun _ _ _ h => h) (.inl ⟨by kernel_rfl, ?_⟩) (fun _ => hHeld) ?_ (by decide)
      rotate_left
      · intro w9; go_simp; try with_reducible rfl
      try simp only [Act.put, List.getElem_toArray, List.getElem_cons_succ, List.getElem_cons_zero, List.setIfInBounds_toArray, List.set_cons_zero, List.set_cons_succ]
      refine wpAnyT_pure (i := 6) (v := ?_) rfl (by kernel_rfl) (by kernel_rfl) (by kernel_rfl) (fun _ _ _ h => h) (.inl ⟨by kernel_rfl, ?_⟩) (fun _ => hHeld) ?_ (by decide)
      rotate_left
      · intro w9; go_simp; try with_reducible rfl
      try simp only [Act.put, List.getElem_toArray, List.getElem_cons_succ, List.getElem_cons_zero, List.setIfInBounds_toArray, List.set_cons_zero, List.set_cons_succ]
      refine wpAnyT_take (i := 3) [8, 9] (v := ?_) rfl (by kernel_rfl) (by kernel_rfl) (by kernel_rfl) (by kernel_rfl) (fun _ _ _ h => h) (.inl ⟨by kernel_rfl, ?_⟩) hHeld ?_
      rotate_left
      · intro w9 hS9; (try dsimp only at hS9); have z0 := (hS9.cell (p := ⟨b1, o1 + k * 5, none⟩) hb1').trans p0; have y0 := (hS9.cell (p := ⟨b2, o2 + k * 5, none⟩) hb2').trans q0; have z1 := (hS9.cell (p := ⟨b1, o1 + k * 5 + 1, none⟩) hb1').trans p1; have y1 := (hS9.cell (p := ⟨b2, o2 + k * 5 + 1, none⟩) hb2').trans q1; have z2 := (hS9.cell (p := ⟨b1, o1 + k * 5 + 2, none⟩) hb1').trans p2; have y2 := (hS9.cell (p := ⟨b2, o2 + k * 5 + 2, none⟩) hb2').trans q2; have z3 := (hS9.cell (p := ⟨b1, o1 + k * 5 + 3, none⟩) hb1').trans p3; have y3 := (hS9.cell (p := ⟨b2, o2 + k * 5 + 3, none⟩) hb2').trans q3; have z4 := (hS9.cell (p := ⟨b1, o1 + k * 5 + 4, none⟩) hb1').trans p4; have y4 := (hS9.cell (p := ⟨b2, o2 + k * 5 + 4, none⟩) hb2').trans q4; go_simp; try with_reducible rfl
      try simp only [Act.put, List.getElem_toArray, List.getElem_cons_succ, List.getElem_cons_zero, List.setIfInBounds_toArray, List.set_cons_zero, List.set_cons_succ]
      refine wpAnyT_take (i := 7) [8, 9] (v := ?_) rfl (by kernel_rfl) (by kernel_rfl) (by kernel_rfl) (by kernel_rfl) (fun _ _ _ h => h) (.inl ⟨by kernel_rfl, ?_⟩) hHeld ?_
      rotate_left
      · intro w9 hS9; (try dsimp only at hS9); have z0 := (hS9.cell (p := ⟨b1, o1 + k * 5, none⟩) hb1').trans p0; have y0 := (hS9.cell (p := ⟨b2, o2 + k * 5, none⟩) hb2').trans q0; have z1 := (hS9.cell (p := ⟨b1, o1 + k * 5 + 1, none⟩) hb1').trans p1; have y1 := (hS9.cell (p := ⟨b2, o2 + k * 5 + 1, none⟩) hb2').trans q1; have z2 := (hS9.cell (p := ⟨b1, o1 + k * 5 + 2, none⟩) hb1').trans p2; have y2 := (hS9.cell (p := ⟨b2, o2 + k * 5 + 2, none⟩) hb2').trans q2; have z3 := (hS9.cell (p := ⟨b1, o1 + k * 5 + 3, none⟩) hb1').trans p3; have y3 := (hS9.cell (p := ⟨b2, o2 + k * 5 + 3, none⟩) hb2').trans q3; have z4 := (hS9.cell (p := ⟨b1, o1 + k * 5 + 4, none⟩) hb1').trans p4; have y4 := (hS9.cell (p := ⟨b2, o2 + k * 5 + 4, none⟩) hb2').trans q4; go_simp; try with_reducible rfl
      try simp only [Act.put, List.getElem_toArray, List.getElem_cons_succ, List.getElem_cons_zero, List.setIfInBounds_toArray, List.set_cons_zero, List.set_cons_succ]
      refine wpAnyT_next (i := 8) (by kernel_rfl) rfl ?_
      intro K hK
      go_simp
      go_at_call 6
      refine (HSS.out _ (by exact (by repeat (first | (with_reducible exact Below.refl _ _) | (with_reducible assumption) | (with_reducible refine bset ?_ ?_ _) | (with_reducible refine balloc ?_ _) | (with_reducible refine Below.drew ?_) | (with_reducible refine bdrewN ?_ _) | (with_reducible refine bnext ?_ (by with_reducible assumption)) | exact Nat.le_refl _ | (simp; done) | omega | (simp; omega))))).mono ?_
      rintro e w6 ⟨rfl, hb6⟩
      have HB6 : Hid (Below wr.heap.size wr w6) := Lib.hid (by refine bnext ?_ hb6; exact (by repeat (first | (with_reducible exact Below.refl _ _) | (with_reducible assumption) | (with_reducible refine bset ?_ ?_ _) | (with_reducible refine balloc ?_ _) | (with_reducible refine Below.drew ?_) | (with_reducible refine bdrewN ?_ _) | (with_reducible refine bnext ?_ (by with_reducible assumption)) | exact Nat.le_refl _ | (simp; done) | omega | (simp; omega))))
      have hs6 := HB6.out
      clear hb6
      go_simp
      have hHeld2 := hs6
      refine hK.out _ _ (fun _ => hHeld2) ?_
      clear hK K hHeld
      have hHeld := hHeld2
      clear hHeld2
      try simp only [Act.put, List.getElem_toArray, List.getElem_cons_succ, List.getElem_cons_zero, List.setIfInBounds_toArray, List.set_cons_zero, List.set_cons_succ]
      refine wpAnyT_pure (i := 9) (v := ?_) rfl (by kernel_rfl) (by kernel_rfl) (by kernel_rfl) (fun _ _ _ h => h) (.inl ⟨by kernel_rfl, ?_⟩) (fun _ => hHeld) ?_ (by decide)
      rotate_left
      · intro w9; go_simp; try with_reducible rfl
      try simp only [Act.put, List.getElem_toArray, List.getElem_cons_succ, List.getElem_cons_zero, List.setIfInBounds_toArray, List.set_cons_zero, List.set_cons_succ]
      refine wpAnyT_done (by kernel_rfl) ?_ _
      go_wp2
      go_roundw
      case rel => exact ⟨k + 1, by omega, by go_num, bnext HB.out HB6.out⟩
      case measure => simp [intOf]; omega
      --law>
    · go_wp2
      go_ret
      exact ⟨rfl, bnext hB2 hB⟩
end Go.Proofs.YtlcjdlnhniemcaaDoor
