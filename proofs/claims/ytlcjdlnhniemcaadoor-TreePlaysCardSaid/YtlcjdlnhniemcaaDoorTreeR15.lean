/- The reference of tree: NewWoods, Act, TreePlayed. No condition. -/
import Derived.Test.YtlcjdlnhniemcaaDoorTreeR14
import Derived.Test.YtlcjdlnhniemcaaDoorTree14
namespace Go.Proofs.YtlcjdlnhniemcaaDoor
open Go.RowKit
set_option linter.unusedSimpArgs false
set_option linter.unusedVariables false

theorem ref_Act {B Wb M : Nat} {W : List tr.Item} {g c0 : Nat} {ia : List ItA} (a : Act_) (X : Option Addr) (xc : Nat) (w : World) (h : WdAt w B Wb M W g c0 ia) (hM : M ≤ 1000000) (hX : SlRep Rep.u8 w (· < w.heap.size) a.data X xc) (hat : IntOk a.at_) (hct : IntOk a.count) (hd : a.data.length ≤ 140737488351232) (hpl : a.path.size ≤ 140737488351232) (htl : a.to.size ≤ 140737488351232) :
    Calls Tryd.prog 10 #[.pointer (some ⟨Wb, 0, none⟩), .agg #[.int .i64 a.kind, .string a.path, .string a.to, .int .i64 a.at_, .int .i64 a.count, .slice X a.data.length xc]] w (RAct w B Wb (M + 1) g (tr.act W a)) := by
  obtain ⟨ak, ap, ao, aa, an, ad⟩ := a
  simp only at hX hat hct hd hpl htl ⊢
  obtain ⟨pl_, rfl⟩ : ∃ l, ap = strOf l := ⟨_, strOf_of ap⟩
  obtain ⟨tl, rfl⟩ : ∃ l, ao = strOf l := ⟨_, strOf_of ao⟩
  rw [strOf_size] at hpl htl
  by_cases hbad : ak < 1 ∨ 10 < ak
  · exact ref_Act_no ak pl_ tl aa an ad X xc w h hpl htl (.inl hbad)
  by_cases hsz : ak = 10 ∧ (tl.length = 0 ∨ 200 < tl.length)
  · exact ref_Act_no ak pl_ tl aa an ad X xc w h hpl htl (.inr (.inl hsz))
  cases hw : pa.walk [] pl_ with
  | error c => exact ref_Act_no ak pl_ tl aa an ad X xc w h hpl htl (.inr (.inr ⟨c, hw⟩))
  | ok names =>
    by_cases hadd : ak = 1 ∨ ak = 2 ∨ ak = 10
    · exact ref_Act_add ak pl_ tl aa an ad X xc w h hM hpl htl hadd hsz hw
    by_cases k8 : ak = 8
    · subst k8; exact ref_Act_rm pl_ tl aa an ad X xc w h hM hpl htl hw
    by_cases k9 : ak = 9
    · subst k9; exact ref_Act_mv pl_ tl aa an ad X xc w h hM hpl htl hw
    have hak : 3 ≤ ak ∧ ak ≤ 7 := by omega
    cases hf : tr.find W true 8 names with
    | error q => exact ref_Act_tell ak hak pl_ tl aa an ad X xc w h hM hpl htl hw (.inl ⟨q, hf⟩)
    | ok n =>
      obtain ⟨f1, f2⟩ := tr.find_live h.inv hf
      rcases h.inv.kind n f1 with hk | hk | hk
      · exact ref_Act_tell ak hak pl_ tl aa an ad X xc w h hM hpl htl hw (.inr ⟨n, hf, .inl hk⟩)
      · by_cases h67 : ak = 6 ∨ ak = 7
        · exact ref_Act_tell ak hak pl_ tl aa an ad X xc w h hM hpl htl hw (.inr ⟨n, hf, .inr ⟨hk, h67⟩⟩)
        · have h345 : ak = 3 ∨ ak = 4 ∨ ak = 5 := by omega
          rcases h345 with rfl | rfl | rfl
          · exact ref_Act_put pl_ tl aa an ad X xc w h hM hpl htl hw hf hk hat hct hX hd
          · exact ref_Act_get pl_ tl aa an ad X xc w h hM hpl htl hw hf hk hat hct hX hd
          · exact ref_Act_cut pl_ tl aa an ad X xc w h hM hpl htl hw hf hk hat hct hX hd
      · exact absurd hk (f2 rfl)
set_option maxRecDepth 100000 in
theorem ref_NewWoods (w : World) : Calls Tryd.prog 9 #[] w fun e w' => ∃ Wb g c ia, e = .returned (.pointer (some ⟨Wb, 0, none⟩)) ∧ WdAt w' w.heap.size Wb 0 tr.start g c ia ∧ Below w.heap.size w w' := by
  go_enter Tryd.func9, Tryd.ntmps9
  go_wp2
  go_ret
  refine ⟨w.heap.size + 1, w.heap.size, 1, [⟨⟨1, -1, [], [], [], false⟩, none, 0⟩], rfl, ⟨tr.Inv.start, rfl, ?_, ?_, fun x hx => ?_, by omega, by decide⟩, (by repeat (first | (with_reducible exact Below.refl _ _) | (with_reducible assumption) | (with_reducible refine bset ?_ ?_ _) | (with_reducible refine balloc ?_ _) | (with_reducible refine Below.drew ?_) | (with_reducible refine bdrewN ?_ _) | (with_reducible refine bnext ?_ (by with_reducible assumption)) | exact Nat.le_refl _ | (simp; done) | omega | (simp; omega)))⟩
  · have h := BlkA.new (w.alloc (.cells #[.int .i64 1, .int .i64 (-1), .string ⟨#[]⟩, .slice none 0 0, .string ⟨#[]⟩, .bool false] 66)) 69 #[.slice (some ⟨w.heap.size, 0, none⟩) 1 1]
    rw [World.size_alloc] at h
    exact h
  · exact (Own.lit w w.heap.size 66 6 1 [.int .i64 1, .int .i64 (-1), .string ⟨#[]⟩, .slice none 0 0, .string ⟨#[]⟩, .bool false] (Nat.le_refl _) rfl (by decide)).alloc _
  · simp only [List.mem_singleton] at hx
    subst hx
    exact Own.nil _ _ _ _
theorem ref_Played_long (n c : Nat) (A : Option Addr) (w : World) (h : 300 < n) (hn : n ≤ 140737488351232) : Calls Tryd.prog 5 #[.slice A n c] w fun e w' => e = .returned (.tuple #[.slice none 0 0, .int .i64 1]) ∧ Below w.heap.size w w' := by
  have h' : (300 : Int) < (n : Int) := by omega
  go_enter Tryd.func5, Tryd.ntmps5
  go_wp2
  go_ret2
  exact ⟨rfl, (by repeat (first | (with_reducible exact Below.refl _ _) | (with_reducible assumption) | (with_reducible refine bset ?_ ?_ _) | (with_reducible refine balloc ?_ _) | (with_reducible refine Below.drew ?_) | (with_reducible refine bdrewN ?_ _) | (with_reducible refine bnext ?_ (by with_reducible assumption)) | exact Nat.le_refl _ | (simp; done) | omega | (simp; omega)))⟩
set_option maxRecDepth 100000 in
set_option maxHeartbeats 2000000 in
theorem ref_Played_ok (l : List Act_) (A : Option Addr) (c : Nat) (w : World) (hl : SlRep Act_.rep w (· < w.heap.size) l A c) (hlen : l.length ≤ 300) (hd : ∀ a ∈ l, IntOk a.at_ ∧ IntOk a.count ∧ a.data.length ≤ 140737488351232 ∧ a.path.size ≤ 140737488351232 ∧ a.to.size ≤ 140737488351232) :
    Calls Tryd.prog 5 #[.slice A l.length c] w (RowsRes Seen.rep (tr.play l) w) := by
  have HL := Lib.hid hl
  have HP : Hid (tr.play l = .ok (tr.afterAll l l.length).1) := Lib.hid (by unfold tr.play; rw [if_neg (by omega)])
  have HD : Hid (∀ k, k < l.length → IntOk (l.getD k tr.za).at_ ∧ IntOk (l.getD k tr.za).count ∧ (l.getD k tr.za).data.length ≤ 140737488351232 ∧ (l.getD k tr.za).path.size ≤ 140737488351232 ∧ (l.getD k tr.za).to.size ≤ 140737488351232) := Lib.hid (fun k hk => hd _ (by rw [List.getD_eq_getElem?_getD, List.getElem?_eq_getElem hk]; exact List.getElem_mem hk))
  have HNE := Lib.hid ref_NewWoods
  clear hl hd
  go_enter Tryd.func5, Tryd.ntmps5
  go_wp2_with (first
    | (go_at_call 9; ((with_reducible refine (HNE.out _).mono ?_); rintro e w1 ⟨Wb, g0, cc0, ia0, rfl, hN, hb1⟩; have HN := Lib.hid hN; have HB1 := Lib.hid hb1; clear hN hb1))
    | fail)
  clear HNE
  go_loopw [5, 14] (fun out i wr => ∃ (k : Nat) (Ao : Option Addr) (co : Nat) (xs : List Value) (g c0 : Nat) (ia : List ItA), k ≤ l.length ∧ i = .int .i64 k ∧ out = .slice Ao k co ∧ Hid (WdAt wr w.heap.size Wb k (tr.afterAll l k).2 g c0 ia ∧ Coll Seen.rep wr w.heap.size 31 5 Ao k co (WF Wb g) (tr.afterAll l k).1 xs ∧ Below w.heap.size w wr)) (fun _ i _ => l.length - (intOf i).toNat)
  case atStart => exact ⟨0, none, 0, [], g0, cc0, ia0, by omega, rfl, rfl, Lib.hid ⟨HN.out, Coll.nil _ _ _ _ _, HB1.out⟩⟩
  case round =>
    obtain ⟨k, Ao, co, xs, g, c0, ia, hk, rfl, rfl, HR⟩ := hrel
    rename World => wr
    obtain ⟨hH, hC, hB⟩ := HR.out
    by_cases hlt : k < l.length
    · obtain ⟨b, o, rfl, hb, G, gc, e0, e1, e2, e3, e4, e5, hg⟩ := Act_.cells_at tr.za (HL.out.below hB) hlt
      have hlt' : (k : Int) < (l.length : Int) := by omega
      have hbr : b < wr.heap.size := Nat.lt_of_lt_of_le hb hB.size
      have hdl := HD.out k hlt
      have HAF := Lib.hid (tr.afterAll_succ (l := l) (k := k) (a := l.getD k tr.za) (by rw [List.getD_eq_getElem?_getD, List.getElem?_eq_getElem hlt]; rfl))
      have HGL := Lib.hid hg
      have HH := Lib.hid hH
      have HC := Lib.hid hC
      have HB := Lib.hid hB
      have hsz : w.heap.size ≤ wr.heap.size := hB.size
      clear hg hH hC hB HR HL HD HN HB1
      generalize l.getD k tr.za = t at *
      generalize (tr.afterAll l k).2 = s at *
      generalize (tr.afterAll l k).1 = L at *
      have HDO : Hid (∀ wx, Below wr.heap.size wr wx → Calls Tryd.prog 10 #[.pointer (some ⟨Wb, 0, none⟩), .agg #[.int .i64 t.kind, .string t.path, .string t.to, .int .i64 t.at_, .int .i64 t.count, .slice G t.data.length gc]] wx (RAct wx w.heap.size Wb (k + 1) g (tr.act s t))) := Lib.hid (fun wx hb =>
        ref_Act t G gc wx (HH.out.next hb) (by omega) (HGL.out.keep fun q hq => ⟨Nat.lt_of_lt_of_le hq (Nat.le_trans hsz hb.size), hb.block q (Nat.lt_of_lt_of_le hq hsz)⟩) hdl.1 hdl.2.1 hdl.2.2.1 hdl.2.2.2.1 hdl.2.2.2.2)
      go_wp2_with (first
        | (go_at_call 10; ((with_reducible refine (HDO.out _ (balloc (bself wr) _)).mono ?_); rintro e w5 ⟨cs, g5, c5, ia5, rfl, g1, g2, g3, g4⟩; obtain ⟨Ad, cd, An, cn, rfl, g5', g6⟩ := Seen.rep_iff.1 g1; have HC5 := Lib.hid ((HC.out.next (balloc (bself wr) _)).stays g3 g4); have G1 := Lib.hid g1; have G2 := Lib.hid g2; have G3 := Lib.hid g3; have G4 := Lib.hid g4; have hs5 := g3.size; clear g1 g2 g3 g4 g5' g6))
        | (at_builtin; refine wp_app _ rfl _ _ _ rfl elemSeen w.heap.size Ao k co xs rfl (HC5.out.own.alloc _) _ 1 1 [_, _, _, _, _] rfl rfl (Cells.newAt _ _ _ rfl) (by simp [Value.oneCell']) (by omega) (by unfold maxLen; omega) (by simp only [World.size_alloc] at *; omega) ?_; intro A6 c6 w6 hO6 hg6; have HO6 := Lib.hid hO6; have HG6 := Lib.hid hg6; clear hO6 hg6)
        | fail)
      go_roundw
      case rel =>
        have hs5' : wr.heap.size + 1 ≤ w5.heap.size := by simpa using hs5
        have hC6 := HC5.out.push (a := (tr.act s t).2) (Seen.rep.mono G1.out (fun q hq => ⟨⟨by have := hq.1; simp only [World.size_alloc] at this; omega, hq.2.1, fun e => by have := (HC.out.own.lt q e).2; have := hq.1; simp only [World.size_alloc] at this; omega, hq.2.2⟩, rfl⟩)) (balloc (bself w5) _) HG6.out HO6.out (fun q hq => (G2.out.lt hq).2)
        have hF6 : WdAt w6 w.heap.size Wb (k + 1) (tr.act s t).1 g5 c5 ia5 := by
          refine G2.out.staysF ((Stays.of_below (balloc (bself w5) _) (fun j => blkOf Ao = some j)).comp (Stays.grew HG6.out)) (fun e => HC5.out.far _ e (.inl rfl)) (fun e => HC5.out.far _ e (.inr rfl)) fun x hx q hq e => ?_
          rcases Own.two (G2.out.rows x hx) HC5.out.own u8NeSeen with e2 | e2
          · rw [e2] at hq; cases hq
          · exact e2 (by rw [hq, e])
        have hB6 : Below w.heap.size w w6 := by
          have b1 : Below w.heap.size w (wr.alloc (.cells #[.int .i64 t.kind, .string t.path, .string t.to, .int .i64 t.at_, .int .i64 t.count, .slice G t.data.length gc] 36)) := balloc HB.out _
          have b3 : Below w.heap.size (wr.alloc (.cells #[.int .i64 t.kind, .string t.path, .string t.to, .int .i64 t.at_, .int .i64 t.count, .slice G t.data.length gc] 36)) w5 := G3.out.below (by simp only [World.size_alloc]; omega) (fun q hq => (HH.out.lt hq).1)
          exact (balloc (b1.trans b3) _).trans (HG6.out.below (by simp only [World.size_alloc]; omega) (fun j hj => (HC5.out.own.lt j hj).1))
        exact ⟨k + 1, A6, c6, _, g5, c5, ia5, by omega, by go_num, rfl, Lib.hid (by rw [HAF.out]; exact ⟨hF6, hC6, hB6⟩)⟩
      case measure => simp [intOf]; omega
    · obtain rfl : k = l.length := by omega
      have HRS : Hid (RowsRes Seen.rep (tr.play l) w (.returned (.tuple #[.slice Ao l.length co, .int .i64 0])) wr) := Lib.hid (by
        have h := hC.rep rfl (by decide)
        exact RowsRes.yes (L := (tr.afterAll l l.length).1) HP.out h.1 h.2 hB)
      clear hH hC hB HR HL HD HN HB1 HP
      go_wp2
      go_ret2
      exact HRS.out
end Go.Proofs.YtlcjdlnhniemcaaDoor
