/- Package glob: the reference's items of a pattern. No condition. -/
import Derived.Test.YtldoihbblgnpjaaGlob10
namespace Go.Proofs.Ytldoihbblgnpjaa
open Go.RowKit

def gl.RItemsRes (s : List UInt8) (w : World) (e : Ending) (w' : World) : Prop :=
  (∃ A n c, e = .returned (.tuple #[.slice A n c, .bool (gl.parse s).isSome]) ∧ ∀ l, gl.parse s = some l → n = l.length ∧ l.length ≤ 40 ∧ SlRep gl.rrep w' (· < w'.heap.size) l A c) ∧ Below w.heap.size w w'
theorem gl.RItemsRes.no {s : List UInt8} {w w' : World} {e : Ending} (h : gl.parse s = none) (he : e = .returned (.tuple #[.slice none 0 0, .bool false])) (hb : Below w.heap.size w w') : gl.RItemsRes s w e w' :=
  ⟨⟨none, 0, 0, by rw [h]; exact he, fun l hl => by rw [h] at hl; cases hl⟩, hb⟩

set_option maxRecDepth 100000 in
set_option maxHeartbeats 20000000 in
theorem ref_globItems (s : List UInt8) (w : World) (hs : s.length ≤ 140737488351232) : Calls Try.prog 17 #[.string (strOf s)] w (gl.RItemsRes s w) := by
  by_cases hlong : 40 < s.length
  · have hd : decide ((s.length : Int) > 40) = true := by simp; omega
    have hd' : decide (40 < (s.length : Int)) = true := by simp; omega
    have HX : Hid (gl.parse s = none) := Lib.hid (if_pos hlong)
    clear hlong
    go_enter Try.func17, Try.ntmps17
    go_wp2
    go_ret2
    exact gl.RItemsRes.no HX.out rfl (by repeat (first | (with_reducible exact Below.refl _ _) | (with_reducible assumption) | (with_reducible refine bset ?_ ?_ _) | (with_reducible refine balloc ?_ _) | (with_reducible refine Below.drew ?_) | (with_reducible refine bdrewN ?_ _) | (with_reducible refine bnext ?_ (by with_reducible assumption)) | exact Nat.le_refl _ | (simp; done) | omega | (simp; omega)))
  · have hd : decide ((s.length : Int) > 40) = false := by simp; omega
    have hd' : decide (40 < (s.length : Int)) = false := by simp; omega
    have hs40 : s.length ≤ 40 := by omega
    have HPS := Lib.hid (gl.parse_short hlong)
    clear hlong hs
    go_enter Try.func17, Try.ntmps17
    go_wp2
    go_loopw [4, 5] (fun s4 s5 wr => ∃ (acc : List gl.Item) (i : Nat) (A : Option Addr) (c : Nat), s4 = .slice A acc.length c ∧ s5 = .int .i64 i ∧ i ≤ s.length ∧ acc.length ≤ i ∧ Hid (gl.items acc (s.drop i) = gl.items [] s) ∧ Hid (gl.ItemsAt wr (w.heap.size + 1) A c acc ∧ Below w.heap.size w wr ∧ wr.cell? ⟨w.heap.size, 0, none⟩ = some (.string (strOf s)))) (fun _ s5 _ => s.length - (intOf s5).toNat)
    case atStart => exact ⟨[], 0, none, 0, rfl, rfl, by omega, by simp, Lib.hid rfl, Lib.hid ⟨gl.ItemsAt.nil _ _, (by repeat (first | (with_reducible exact Below.refl _ _) | (with_reducible assumption) | (with_reducible refine bset ?_ ?_ _) | (with_reducible refine balloc ?_ _) | (with_reducible refine Below.drew ?_) | (with_reducible refine bdrewN ?_ _) | (with_reducible refine bnext ?_ (by with_reducible assumption)) | exact Nat.le_refl _ | (simp; done) | omega | (simp; omega))), by simp [go_sem]⟩⟩
    case round =>
      obtain ⟨acc, i, A, c, rfl, rfl, hi, hac, HI, HW⟩ := hrel
      rename World => wr
      have HIT := Lib.hid HW.out.1
      obtain ⟨xs, hx⟩ := HW.out.1
      have HX := Lib.hid hx
      have hbox := HW.out.2.2
      have hws := World.block_lt_of_cell? wr _ hbox
      simp only at hws
      clear hx
      by_cases hlt : i < s.length
      · obtain ⟨a, ha⟩ : ∃ a, a = s.getD i 0 := ⟨_, rfl⟩
        have hai : ∀ h, s[i]'h = a := fun h => by rw [ha, List.getD_eq_getElem?_getD, List.getElem?_eq_getElem h]; rfl
        have HCUR : Hid (s.drop i = a :: s.drop (i + 1)) := Lib.hid (by rw [gl.drop_byte hlt, ← ha])
        have hlt' : (i : Int) < (s.length : Int) := by omega
        have h0 := a.toNat_lt
        clear ha
        by_cases h42 : a = 42
        · subst h42
          have HST : Hid (gl.step 42 (s.drop (i + 1)) = some (.run, s.drop (i + 1))) := Lib.hid (by unfold gl.step; rfl)
          go_wp2_with (first
            | (at_builtin; refine wp_app _ rfl _ _ _ rfl gl.elemR (w.heap.size + 1) A acc.length c xs rfl (HX.out.1.alloc _) _ 1 1 [.int .u8 42, .int .u8 0, .slice none 0 0, .bool false] rfl rfl (Cells.newAt _ _ _ rfl) (by simp [Value.oneCell']) (by omega) (by unfold maxLen; omega) (by rw [World.size_alloc]; omega) ?_; intro A7 c7 w7 ho7 hg7; have HO7 := Lib.hid ho7; have HG7 := Lib.hid hg7; clear ho7 hg7)
            | fail)
          have HNX : Hid (gl.ItemsAt w7 (w.heap.size + 1) A7 c7 (acc ++ [.run]) ∧ Below w.heap.size w w7 ∧ w7.cell? ⟨w.heap.size, 0, none⟩ = some (.string (strOf s))) := Lib.hid ⟨HIT.out.snoc (balloc (bself wr) _) HG7.out HX.out HO7.out (gl.plain_rep rfl _ rfl), Grew.step (bnext HW.out.2.1 (balloc (bself wr) _)) HG7.out (fun k hk => by have := (HIT.out.lt k hk).1; omega), (HG7.out.cell 0 (by rw [World.size_alloc]; omega) (fun k hk => by have := (HIT.out.lt k hk).1; omega)).trans (((balloc (bself wr) _).cell (p := ⟨w.heap.size, 0, none⟩) (by simp only; omega)).trans HW.out.2.2)⟩
          go_roundw
          case rel => exact ⟨acc ++ [.run], i + 1, A7, c7, by rw [List.length_append]; rfl, by go_num, by omega, by rw [List.length_append, List.length_singleton]; omega, Lib.hid (by rw [← HI.out, HCUR.out]; exact (gl.items_on HST.out).symm), HNX⟩
          case measure => simp [intOf]; omega
        · obtain ⟨k1, k1'⟩ := u8_no 42 h42 rfl
          by_cases h63 : a = 63
          · subst h63
            have HST : Hid (gl.step 63 (s.drop (i + 1)) = some (.any, s.drop (i + 1))) := Lib.hid (by unfold gl.step; rfl)
            go_wp2_with (first
              | (at_builtin; refine wp_app _ rfl _ _ _ rfl gl.elemR (w.heap.size + 1) A acc.length c xs rfl (HX.out.1.alloc _) _ 1 1 [.int .u8 63, .int .u8 0, .slice none 0 0, .bool false] rfl rfl (Cells.newAt _ _ _ rfl) (by simp [Value.oneCell']) (by omega) (by unfold maxLen; omega) (by rw [World.size_alloc]; omega) ?_; intro A7 c7 w7 ho7 hg7; have HO7 := Lib.hid ho7; have HG7 := Lib.hid hg7; clear ho7 hg7)
              | fail)
            have HNX : Hid (gl.ItemsAt w7 (w.heap.size + 1) A7 c7 (acc ++ [.any]) ∧ Below w.heap.size w w7 ∧ w7.cell? ⟨w.heap.size, 0, none⟩ = some (.string (strOf s))) := Lib.hid ⟨HIT.out.snoc (balloc (bself wr) _) HG7.out HX.out HO7.out (gl.plain_rep rfl _ rfl), Grew.step (bnext HW.out.2.1 (balloc (bself wr) _)) HG7.out (fun k hk => by have := (HIT.out.lt k hk).1; omega), (HG7.out.cell 0 (by rw [World.size_alloc]; omega) (fun k hk => by have := (HIT.out.lt k hk).1; omega)).trans (((balloc (bself wr) _).cell (p := ⟨w.heap.size, 0, none⟩) (by simp only; omega)).trans HW.out.2.2)⟩
            go_roundw
            case rel => exact ⟨acc ++ [.any], i + 1, A7, c7, by rw [List.length_append]; rfl, by go_num, by omega, by rw [List.length_append, List.length_singleton]; omega, Lib.hid (by rw [← HI.out, HCUR.out]; exact (gl.items_on HST.out).symm), HNX⟩
            case measure => simp [intOf]; omega
          · obtain ⟨k2, k2'⟩ := u8_no 63 h63 rfl
            by_cases h92 : a = 92
            · subst h92
              by_cases h2 : i + 1 < s.length
              · clear hlt
                obtain ⟨b, hb⟩ : ∃ b, b = s.getD (i + 1) 0 := ⟨_, rfl⟩
                have hbi : ∀ h, s[i + 1]'h = b := fun h => by rw [hb, List.getD_eq_getElem?_getD, List.getElem?_eq_getElem h]; rfl
                have HST : Hid (gl.step 92 (s.drop (i + 1)) = some (.eq b, s.drop (i + 2))) := Lib.hid (by
                  rw [gl.drop_byte (by omega : i + 1 < s.length), ← hb]
                  unfold gl.step
                  rfl)
                have hge : decide ((s.length : Int) ≤ (i : Int) + 1) = false := decide_eq_false (by omega)
                have hgi : (i : Int) + 1 < (s.length : Int) := by omega
                clear hb
                go_wp2_with (first
                  | (at_builtin; refine wp_app _ rfl _ _ _ rfl gl.elemR (w.heap.size + 1) A acc.length c xs rfl (HX.out.1.alloc _) _ 1 1 [.int .u8 61, .int .u8 b.toNat, .slice none 0 0, .bool false] rfl rfl (Cells.newAt _ _ _ rfl) (by simp [Value.oneCell']) (by omega) (by unfold maxLen; omega) (by rw [World.size_alloc]; omega) ?_; intro A7 c7 w7 ho7 hg7; have HO7 := Lib.hid ho7; have HG7 := Lib.hid hg7; clear ho7 hg7)
                  | fail)
                have HNX : Hid (gl.ItemsAt w7 (w.heap.size + 1) A7 c7 (acc ++ [(.eq b)]) ∧ Below w.heap.size w w7 ∧ w7.cell? ⟨w.heap.size, 0, none⟩ = some (.string (strOf s))) := Lib.hid ⟨HIT.out.snoc (balloc (bself wr) _) HG7.out HX.out HO7.out (gl.plain_rep rfl _ rfl), Grew.step (bnext HW.out.2.1 (balloc (bself wr) _)) HG7.out (fun k hk => by have := (HIT.out.lt k hk).1; omega), (HG7.out.cell 0 (by rw [World.size_alloc]; omega) (fun k hk => by have := (HIT.out.lt k hk).1; omega)).trans (((balloc (bself wr) _).cell (p := ⟨w.heap.size, 0, none⟩) (by simp only; omega)).trans HW.out.2.2)⟩
                go_roundw
                case rel => exact ⟨acc ++ [(.eq b)], i + 2, A7, c7, by rw [List.length_append]; rfl, by go_num, by omega, by rw [List.length_append, List.length_singleton]; omega, Lib.hid (by rw [← HI.out, HCUR.out]; exact (gl.items_on HST.out).symm), HNX⟩
                case measure => simp [intOf]; omega
              · clear hlt
                have HXN : Hid (gl.parse s = none) := Lib.hid (by rw [HPS.out, ← HI.out, HCUR.out]; exact gl.items_no (by unfold gl.step; rw [List.drop_eq_nil_of_le (by omega)]; rfl))
                have hge : decide ((s.length : Int) ≤ (i : Int) + 1) = true := decide_eq_true (by omega)
                go_wp2
                go_ret2
                exact gl.RItemsRes.no HXN.out rfl HW.out.2.1
            · obtain ⟨k3, k3'⟩ := u8_no 92 h92 rfl
              by_cases h91 : a = 91
              · subst h91
                have hi1 : i + 1 ≤ s.length := hlt
                go_upto_region 21 with fail
                generalize hw4 : World.alloc wr _ = w4
                have HS0 : Hid (gl.SetS wr w4 [] none 0 false) := Lib.hid (by rw [← hw4]; exact gl.SetS.start wr)
                clear hw4
                have hbox4 := HS0.out.box hbox
                go_cut [71] (fun s71 wx => s71 = .bool (gl.notB (s.drop (i + 1))) ∧ wx = w4)
                case first =>
                  by_cases h2 : i + 1 < s.length
                  · obtain ⟨x, hx⟩ : ∃ x, x = s.getD (i + 1) 0 := ⟨_, rfl⟩
                    have hxi : ∀ h, s[i + 1]'h = x := fun h => by rw [hx, List.getD_eq_getElem?_getD, List.getElem?_eq_getElem h]; rfl
                    have HNB : Hid (gl.notB (s.drop (i + 1)) = (x == 94)) := Lib.hid (by rw [gl.drop_byte h2, ← hx]; unfold gl.notB; rw [List.head?_cons]; rfl)
                    have hgi : (i : Int) + 1 < (s.length : Int) := by omega
                    have hx0 := x.toNat_lt
                    clear hx
                    by_cases h3 : x = 94
                    · subst h3
                      go_wp2
                      go_meet
                      exact ⟨by rw [HNB.out]; rfl, rfl⟩
                    · obtain ⟨e1, e1'⟩ := u8_no 94 h3 rfl
                      have HF : Hid (gl.notB (s.drop (i + 1)) = false) := Lib.hid (by rw [HNB.out]; simpa using h3)
                      clear h3
                      go_wp2
                      go_meet
                      exact ⟨by rw [HF.out], rfl⟩
                  · have HF : Hid (gl.notB (s.drop (i + 1)) = false) := Lib.hid (by rw [List.drop_eq_nil_of_le (by omega)]; rfl)
                    have hgi : decide ((i : Int) + 1 < (s.length : Int)) = false := decide_eq_false (by omega)
                    have hgi' : ¬ ((i : Int) + 1 < (s.length : Int)) := by omega
                    go_wp2
                    go_meet
                    exact ⟨by rw [HF.out], rfl⟩
                case rest =>
                  obtain ⟨rfl, rfl⟩ := hcut
                  obtain ⟨no, HNO⟩ : ∃ no, Hid (gl.notB (s.drop (i + 1)) = no) := ⟨_, Lib.hid rfl⟩
                  rw [HNO.out]
                  go_upto_if 71 with fail
                  go_cut [5] (fun s5 wx => ∃ k0 : Nat, s5 = .int .i64 k0 ∧ k0 ≤ s.length ∧ i < k0 ∧ Hid (s.drop k0 = gl.body (s.drop (i + 1)) ∧ gl.SetS wr wx [] none 0 no))
                  case first =>
                    cases no with
                    | false =>
                      go_wp2
                      go_meet
                      exact ⟨i + 1, by go_num, by omega, by omega, Lib.hid ⟨by unfold gl.body; rw [HNO.out]; rfl, HS0.out⟩⟩
                    | true =>
                      have hc3 := HS0.out.c3
                      have hfz := HS0.out.fz
                      have h2 : i + 1 < s.length := by
                        rcases Nat.lt_or_ge (i + 1) s.length with h | h
                        · exact h
                        · have h3 := HNO.out
                          rw [List.drop_eq_nil_of_le h] at h3
                          cases h3
                      go_wp2
                      go_meet
                      exact ⟨i + 2, by go_num, by omega, by omega, Lib.hid ⟨by unfold gl.body; rw [HNO.out, if_pos rfl, List.tail_drop], HS0.out.neg true⟩⟩
                  case rest =>
                    obtain ⟨k0, rfl, hk0, hik, HB0⟩ := hcut
                    have HSS := Lib.hid HB0.out.2
                    have HBD := Lib.hid HB0.out.1
                    have HBX := Lib.hid hbox
                    clear hbox hbox4
                    go_wp2_with fail
                    go_loopw [5, 8] (fun s5 _ w5 => ∃ (k : Nat) (rs : List (UInt8 × UInt8)) (Ar : Option Addr) (cr : Nat), s5 = .int .i64 k ∧ k ≤ s.length ∧ i < k ∧ rs.length ≤ k ∧ Hid (gl.ranges rs (s.drop k) = gl.ranges [] (gl.body (s.drop (i + 1)))) ∧ Hid (gl.SetS wr w5 rs Ar cr no)) (fun s5 _ _ => s.length - (intOf s5).toNat)
                    case atStart => exact ⟨k0, [], none, 0, rfl, hk0, hik, Nat.zero_le _, Lib.hid (by rw [HBD.out]), HSS⟩
                    case round =>
                      obtain ⟨k, rs, Ar, cr, rfl, hk, hik2, hrk, HRG, HSW⟩ := hrel
                      rename World => w5
                      have hbox5 := HSW.out.box HBX.out
                      cases hp : gl.plainB (s.drop k) with
                      | true =>
                        have hke : k < s.length := by
                          rcases Nat.lt_or_ge k s.length with h | h
                          · exact h
                          · rw [List.drop_eq_nil_of_le h] at hp
                            cases hp
                        obtain ⟨x, hx⟩ : ∃ x, x = s.getD k 0 := ⟨_, rfl⟩
                        have hxi : ∀ h, s[k]'h = x := fun h => by rw [hx, List.getD_eq_getElem?_getD, List.getElem?_eq_getElem h]; rfl
                        have HCK : Hid (s.drop k = x :: s.drop (k + 1)) := Lib.hid (by rw [gl.drop_byte hke, ← hx])
                        have HP := Lib.hid hp
                        have hws5 : w.heap.size < w5.heap.size := by have := HSW.out.lt; omega
                        have hki : (k : Int) < (s.length : Int) := by omega
                        clear hx
                        go_upto_region 26 with (first
                          | (go_at_call 26; refine (ref_fits s k w.heap.size w5 hbox5 (by omega) (by omega)).mono ?_; rw [hp]; rintro e w' ⟨rfl, rfl⟩)
                          | fail)
                        clear hp
                        refine wp_region_tail [8] (fun wx => ∀ a : Addr, a.block < w5.heap.size → wx.cell? a = w5.cell? a) (by kernel_rfl) (fun _ _ => rfl) ?_
                        intro hHeld
                        refine wpAnyT_take (i := 0) [2, 6, 8] (v := ?_) rfl (by kernel_rfl) (by kernel_rfl) (by kernel_rfl) (by kernel_rfl) (fun _ _ _ h => h) (.inl ⟨by rfl, ?_⟩) hHeld ?_
                        rotate_left
                        · intro w9 hS9; (try dsimp only at hS9); have e9 := (hS9 ⟨w.heap.size, 0, none⟩ (by simp only; omega)).trans hbox5; clear hS9; go_simp; try with_reducible rfl
                        try simp only [Act.put, List.setIfInBounds_toArray, List.set_cons_zero, List.set_cons_succ]
                        refine wpAnyT_pure (i := 1) (v := ?_) rfl (by kernel_rfl) (by kernel_rfl) (by kernel_rfl) (fun _ _ _ h => h) (.inl ⟨by rfl, ?_⟩) (fun _ => hHeld) ?_ (by decide)
                        rotate_left
                        · intro w9; go_simp; try with_reducible rfl
                        try simp only [Act.put, List.setIfInBounds_toArray, List.set_cons_zero, List.set_cons_succ]
                        refine wpAnyT_pure (i := 2) (v := ?_) rfl (by kernel_rfl) (by kernel_rfl) (by kernel_rfl) (fun _ _ _ h => h) (.inl ⟨by rfl, ?_⟩) (fun _ => hHeld) ?_ (by decide)
                        rotate_left
                        · intro w9; go_simp; try with_reducible rfl
                        try simp only [Act.put, List.setIfInBounds_toArray, List.set_cons_zero, List.set_cons_succ]
                        refine wpAnyT_take (i := 3) [5, 6, 8] (v := ?_) rfl (by kernel_rfl) (by kernel_rfl) (by kernel_rfl) (by kernel_rfl) (fun _ _ _ h => h) (.inl ⟨by rfl, ?_⟩) hHeld ?_
                        rotate_left
                        · intro w9 hS9; (try dsimp only at hS9); have e9 := (hS9 ⟨w.heap.size, 0, none⟩ (by simp only; omega)).trans hbox5; clear hS9; go_simp; try with_reducible rfl
                        try simp only [Act.put, List.setIfInBounds_toArray, List.set_cons_zero, List.set_cons_succ]
                        refine wpAnyT_pure (i := 4) (v := ?_) rfl (by kernel_rfl) (by kernel_rfl) (by kernel_rfl) (fun _ _ _ h => h) (.inl ⟨by rfl, ?_⟩) (fun _ => hHeld) ?_ (by decide)
                        rotate_left
                        · intro w9; go_simp; try with_reducible rfl
                        try simp only [Act.put, List.setIfInBounds_toArray, List.set_cons_zero, List.set_cons_succ]
                        refine wpAnyT_pure (i := 5) (v := ?_) rfl (by kernel_rfl) (by kernel_rfl) (by kernel_rfl) (fun _ _ _ h => h) (.inl ⟨by rfl, ?_⟩) (fun _ => hHeld) ?_ (by decide)
                        rotate_left
                        · intro w9; go_simp; try with_reducible rfl
                        try simp only [Act.put, List.setIfInBounds_toArray, List.set_cons_zero, List.set_cons_succ]
                        refine wpAnyT_pure (i := 6) (v := ?_) rfl (by kernel_rfl) (by kernel_rfl) (by kernel_rfl) (fun _ _ _ h => h) (.inl ⟨by rfl, ?_⟩) (fun _ => hHeld) ?_ (by decide)
                        rotate_left
                        · intro w9; go_simp; try with_reducible rfl
                        try simp only [Act.put, List.setIfInBounds_toArray, List.set_cons_zero, List.set_cons_succ]
                        refine wpAnyT_next (i := 7) (by kernel_rfl) rfl ?_
                        intro K hK
                        go_simp
                        refine hK.out _ _ (fun _ a h => World.cell?_alloc_lt _ _ _ h) ?_
                        clear hK K hHeld
                        refine wpAnyT_next (i := 8) (by kernel_rfl) rfl ?_
                        intro K hK
                        go_simp
                        refine hK.out _ _ (fun h => absurd ((by kernel_rfl : false = _).trans h) Bool.false_ne_true) ?_
                        clear hK K
                        refine wpAnyT_done (by kernel_rfl) ?_ _
                        go_upto_region 27 with fail
                        generalize hw6 : World.drew _ = w6
                        have hb6 : Below w5.heap.size w5 w6 := by rw [← hw6]; exact ((Below.refl _ _).alloc (Nat.le_refl _) _).drew
                        have hz6 : w6.heap.size = w5.heap.size + 1 := by rw [← hw6]; simp
                        have r0 : w6.cell? ⟨w5.heap.size, 0, none⟩ = some (.int .u8 x.toNat) := by rw [← hw6]; simp [go_sem]
                        have r1 : w6.cell? ⟨w5.heap.size, 1, none⟩ = some (.int .u8 x.toNat) := by rw [← hw6]; simp [go_sem]
                        have rf : ∀ o, w6.frozen? ⟨w5.heap.size, o, none⟩ = false := fun o => by rw [← hw6]; simp [go_sem]
                        have HB6 := Lib.hid hb6
                        have hbox6 := (HSW.out.next hb6).box HBX.out
                        clear hw6 hb6
                        obtain ⟨two, HTW⟩ : ∃ two, Hid (((s.drop (k + 1)).head? == some 45 && gl.plainB (s.drop (k + 2))) = two) := ⟨_, Lib.hid rfl⟩
                        go_cut [103] (fun s103 wx => s103 = .bool two ∧ wx = w6)
                        case first =>
                          by_cases h2 : k + 1 < s.length
                          · obtain ⟨y, hy⟩ : ∃ y, y = s.getD (k + 1) 0 := ⟨_, rfl⟩
                            have hyi : ∀ h, s[k + 1]'h = y := fun h => by rw [hy, List.getD_eq_getElem?_getD, List.getElem?_eq_getElem h]; rfl
                            have hgi : (k : Int) + 1 < (s.length : Int) := by omega
                            have HTY : Hid ((y == 45 && gl.plainB (s.drop (k + 2))) = two) := Lib.hid (by rw [← HTW.out, gl.drop_byte h2, ← hy]; rfl)
                            have hy0 := y.toNat_lt
                            clear hy
                            by_cases h3 : y = 45
                            · subst h3
                              have HF := Lib.hid (ref_fits_at s (k + 2) ((k : Int) + 2) (by omega) w.heap.size w6 hbox6 (by omega) (by omega))
                              have HPL : Hid (gl.plainB (s.drop (k + 2)) = two) := Lib.hid (by rw [← HTY.out]; simp)
                              go_wp2_with (first
                                | (go_at_call 26; refine HF.out.mono ?_; rw [HPL.out]; rintro e w' ⟨rfl, rfl⟩)
                                | fail)
                              go_meet
                              exact ⟨rfl, rfl⟩
                            · obtain ⟨e1, e1'⟩ := u8_no 45 h3 rfl
                              obtain rfl : false = two := by rw [← HTY.out]; simp [h3]
                              clear h3
                              go_wp2
                              go_meet
                              exact ⟨rfl, rfl⟩
                          · obtain rfl : false = two := by rw [← HTW.out, List.drop_eq_nil_of_le (by omega)]; rfl
                            have hgi : decide ((k : Int) + 1 < (s.length : Int)) = false := decide_eq_false (by omega)
                            have hgi' : ¬ ((k : Int) + 1 < (s.length : Int)) := by omega
                            go_wp2
                            go_meet
                            exact ⟨rfl, rfl⟩
                        case rest =>
                          obtain ⟨rfl, rfl⟩ := hcut
                          go_upto_if 103 with fail
                          obtain ⟨hi, k3, hk3, hk4, HRN⟩ : ∃ hi k3, k ≤ k3 ∧ k3 + 1 ≤ s.length ∧ Hid (gl.rng (s.drop k) = ((x, hi), s.drop (k3 + 1)) ∧ (two = false → hi = x ∧ k3 = k) ∧ (two = true → k3 = k + 2 ∧ hi = s.getD (k + 2) 0)) := by
                            cases two with
                            | false =>
                              refine ⟨x, k, Nat.le_refl _, hke, Lib.hid ⟨?_, fun _ => ⟨rfl, rfl⟩, fun h => (by cases h)⟩⟩
                              rw [HCK.out]
                              refine gl.rng_one x _ (fun e => ?_)
                              have h := HTW.out
                              rw [List.tail_drop] at e
                              rw [e.1, e.2] at h
                              simp at h
                            | true =>
                              have h := HTW.out
                              simp only [Bool.and_eq_true, beq_iff_eq] at h
                              have h2 : k + 2 < s.length := by
                                rcases Nat.lt_or_ge (k + 2) s.length with h3 | h3
                                · exact h3
                                · rw [gl.plain_end h3] at h
                                  cases h.2
                              refine ⟨s.getD (k + 2) 0, k + 2, by omega, by omega, Lib.hid ⟨?_, fun h => (by cases h), fun _ => ⟨rfl, rfl⟩⟩⟩
                              have h4 := h.2
                              rw [HCK.out, gl.drop_byte (by omega : k + 1 < s.length)]
                              have h1 := h.1
                              rw [gl.drop_byte (by omega : k + 1 < s.length), List.head?_cons, Option.some.injEq] at h1
                              rw [h1, gl.drop_byte h2]
                              rw [gl.drop_byte h2] at h4
                              exact gl.rng_two x _ _ h4
                          go_cut [5] (fun s5 wx => s5 = .int .i64 k3 ∧ wx.heap.size = w5.heap.size + 1 ∧ wx.cell? ⟨w5.heap.size, 0, none⟩ = some (.int .u8 x.toNat) ∧ wx.cell? ⟨w5.heap.size, 1, none⟩ = some (.int .u8 hi.toNat) ∧ Hid (Below w5.heap.size w5 wx))
                          case first =>
                            cases two with
                            | false =>
                              obtain ⟨rfl, rfl⟩ := HRN.out.2.1 rfl
                              go_wp2
                              go_meet
                              exact ⟨rfl, hz6, r0, r1, HB6⟩
                            | true =>
                              obtain ⟨h5, h6⟩ := HRN.out.2.2 rfl
                              subst h5
                              have hzi : ∀ h, s[k + 2]'h = hi := fun h => by rw [h6, List.getD_eq_getElem?_getD, List.getElem?_eq_getElem h]; rfl
                              have hgi : (k : Int) + 2 < (s.length : Int) := by omega
                              clear h6
                              go_wp2
                              go_meet
                              exact ⟨by go_num, by rw [World.size_setCell]; exact hz6, (set_other _ (by simp)).trans r0, World.cell?_setCell_same' _ _ _ (by rw [r1]; rfl), Lib.hid (HB6.out.setCell (p := ⟨w5.heap.size, 1, none⟩) (Nat.le_refl _) _)⟩
                          case rest =>
                            obtain ⟨rfl, hz7, q0, q1, HB7⟩ := hcut
                            have HS7 := Lib.hid (HSW.out.next HB7.out)
                            have hx0 := x.toNat_lt
                            have hh0 := hi.toNat_lt
                            by_cases hlh : hi < x
                            · have hd2 : decide (hi.toNat < x.toNat) = true := decide_eq_true (UInt8.lt_iff_toNat_lt.1 hlh)
                              have HXN : Hid (gl.parse s = none) := Lib.hid (by
                                rw [HPS.out, ← HI.out, HCUR.out]
                                refine gl.items_no ((gl.step_set _).trans (gl.setOf_no ?_))
                                rw [← HRG.out]
                                exact gl.ranges_no rs HP.out (by rw [HRN.out.1]; exact hlh))
                              clear hlh
                              go_wp2
                              go_ret2
                              exact gl.RItemsRes.no HXN.out rfl (bnext HW.out.2.1 HS7.out.bel)
                            · have hd2 : decide (hi.toNat < x.toNat) = false := decide_eq_false (fun e => hlh (UInt8.lt_iff_toNat_lt.2 e))
                              have HRG2 : Hid (gl.ranges (rs ++ [(x, hi)]) (s.drop (k3 + 1)) = gl.ranges [] (gl.body (s.drop (i + 1)))) := Lib.hid (by
                                rw [← HRG.out, gl.ranges_on rs HP.out (by rw [HRN.out.1]; exact hlh), HRN.out.1])
                              clear hlh
                              have hc2 := HS7.out.c2
                              have hfz := HS7.out.fz
                              have hlt7 := HS7.out.lt
                              go_wp2_with (first
                                | (at_builtin; refine wp_app _ rfl _ _ _ rfl gl.elemPr (wr.heap.size + 1) Ar rs.length cr _ rfl (HS7.out.own.alloc _) _ 1 1 [.int .u8 x.toNat, .int .u8 hi.toNat] rfl rfl (Cells.newAt _ _ _ hz7.symm) (by simp [Value.oneCell']) (by omega) (by unfold maxLen; omega) (by rw [World.size_alloc]; omega) ?_; intro A7 c7 w7 ho7 hg7; have d2 := (hg7.cell 2 (b := wr.heap.size) (by rw [World.size_alloc]; omega) (fun j hj => by have := (HS7.out.own.lt j hj).1; omega)).trans (((balloc (bself wc) _).cell (p := ⟨wr.heap.size, 2, none⟩) hlt7).trans hc2); have d3 := fun o => (hg7.frozen o (b := wr.heap.size) (by rw [World.size_alloc]; omega) (fun j hj => by have := (HS7.out.own.lt j hj).1; omega)).trans (((balloc (bself wc) _).frozen (p := ⟨wr.heap.size, o, none⟩) hlt7).trans (hfz o)); have HSN := Lib.hid (HS7.out.range (x, hi) (balloc (bself wc) _) hg7 ho7); clear ho7 hg7)
                                | fail)
                              go_roundw
                              case rel => exact ⟨k3 + 1, rs ++ [(x, hi)], A7, c7, by go_num, by omega, by omega, by rw [List.length_append, List.length_singleton]; omega, HRG2, HSN⟩
                              case measure => simp [intOf]; omega
                      | false =>
                        have HRE : Hid (gl.ranges [] (gl.body (s.drop (i + 1))) = some (rs, s.drop k)) := Lib.hid (by rw [← HRG.out]; exact gl.ranges_end rs hp)
                        have hc2 := HSW.out.c2
                        obtain ⟨bad, HBD2⟩ : ∃ bad, Hid ((decide (rs.length = 0) || !((s.drop k).head? == some 93)) = bad) := ⟨_, Lib.hid rfl⟩
                        go_upto_region 34 with (first
                          | (go_at_call 26; refine (ref_fits s k w.heap.size w5 hbox5 (by omega) (by omega)).mono ?_; rw [hp]; rintro e w' ⟨rfl, rfl⟩)
                          | fail)
                        clear hp
                        go_cut [139] (fun s139 wx => s139 = .bool bad ∧ wx = w5)
                        case first =>
                          by_cases hr0 : rs.length = 0
                          · obtain rfl : true = bad := by rw [← HBD2.out, decide_eq_true hr0]; rfl
                            have e0 : ((rs.length : Int) == 0) = true := by rw [beq_iff_eq]; omega
                            have HR0 := Lib.hid hr0
                            clear hr0
                            go_wp2
                            go_meet
                            exact ⟨rfl, rfl⟩
                          · have e0 : ((rs.length : Int) == 0) = false := by rw [beq_eq_false_iff_ne]; omega
                            have HB3 : Hid ((!((s.drop k).head? == some 93)) = bad) := Lib.hid (by rw [← HBD2.out, decide_eq_false hr0]; rfl)
                            clear hr0
                            by_cases hke : k < s.length
                            · obtain ⟨x, hx⟩ : ∃ x, x = s.getD k 0 := ⟨_, rfl⟩
                              have hxi : ∀ h, s[k]'h = x := fun h => by rw [hx, List.getD_eq_getElem?_getD, List.getElem?_eq_getElem h]; rfl
                              have HB4 : Hid ((!(x == 93)) = bad) := Lib.hid (by rw [← HB3.out, gl.drop_byte hke, ← hx]; rfl)
                              have hki : (k : Int) < (s.length : Int) := by omega
                              have hkg : decide ((s.length : Int) ≤ (k : Int)) = false := decide_eq_false (by omega)
                              have hkg2 : decide (s.length ≤ k) = false := decide_eq_false (by omega)
                              have hx0 := x.toNat_lt
                              clear hx
                              by_cases h3 : x = 93
                              · subst h3
                                obtain rfl : false = bad := by rw [← HB4.out]; rfl
                                go_wp2
                                go_meet
                                exact ⟨rfl, rfl⟩
                              · obtain ⟨e1, e1'⟩ := u8_no 93 h3 rfl
                                obtain rfl : true = bad := by rw [← HB4.out]; simp [h3]
                                clear h3
                                go_wp2
                                go_meet
                                exact ⟨rfl, rfl⟩
                            · obtain rfl : true = bad := by rw [← HB3.out, List.drop_eq_nil_of_le (by omega)]; rfl
                              have hkg : decide ((s.length : Int) ≤ (k : Int)) = true := decide_eq_true (by omega)
                              have hkg2 : decide (s.length ≤ k) = true := decide_eq_true (by omega)
                              go_wp2
                              go_meet
                              exact ⟨rfl, rfl⟩
                        case rest =>
                          obtain ⟨rfl, rfl⟩ := hcut
                          cases bad with
                          | true =>
                            have HXN : Hid (gl.parse s = none) := Lib.hid (by
                              rw [HPS.out, ← HI.out, HCUR.out]
                              refine gl.items_no ((gl.step_set _).trans (gl.setOf_bad HRE.out ?_))
                              have h1 := HBD2.out
                              rw [Bool.or_eq_true, decide_eq_true_eq] at h1
                              rcases h1 with h1 | h1
                              · exact .inl (List.eq_nil_of_length_eq_zero h1)
                              · exact .inr (by simpa using h1))
                            go_wp2
                            go_ret2
                            exact gl.RItemsRes.no HXN.out rfl (bnext HW.out.2.1 HSW.out.bel)
                          | false =>
                            have h1 := HBD2.out
                            simp only [Bool.or_eq_false_iff, decide_eq_false_iff_not, Bool.not_eq_false', beq_iff_eq] at h1
                            have hke : k < s.length := by
                              rcases Nat.lt_or_ge k s.length with h | h
                              · exact h
                              · rw [List.drop_eq_nil_of_le h] at h1
                                cases h1.2
                            have HST : Hid (gl.step 91 (s.drop (i + 1)) = some (.set rs no, s.drop (k + 1))) := Lib.hid (by
                              rw [gl.step_set, ← HNO.out]
                              refine gl.setOf_ok (by rw [HRE.out, gl.drop_byte hke]; have h2 := h1.2; rw [gl.drop_byte hke] at h2; simp only [List.head?_cons, Option.some.injEq] at h2; rw [h2]) (fun e => h1.1 (by rw [e]; rfl)))
                            clear h1
                            have HIT5 := Lib.hid (HIT.out.next HSW.out.bel)
                            obtain ⟨xs5, hx5⟩ := HIT5.out
                            have HX5 := Lib.hid hx5
                            have hc0 := HSW.out.c0
                            have hc1 := HSW.out.c1
                            have hc3 := HSW.out.c3
                            have HREP : Hid (gl.rrep.rep wc (fun k => w.heap.size + 1 ≤ k ∧ k < wc.heap.size ∧ blkOf A ≠ some k) (.set rs no) [.int .u8 91, .int .u8 0, .slice Ar rs.length cr, .bool no]) := Lib.hid (gl.rrep_iff.2 ⟨Ar, cr, rfl, HSW.out.own.pairs.2.keep (fun j hj => ⟨⟨by omega, hj.2, fun e => by have := (HIT.out.lt j e).2; omega⟩, rfl⟩)⟩)
                            have hws5 := HSW.out.lt
                            clear hx5
                            go_wp2_with (first
                              | (at_builtin; refine wp_app _ rfl _ _ _ rfl gl.elemR (w.heap.size + 1) A acc.length c xs5 rfl (HX5.out.1.alloc _) _ 1 1 [.int .u8 91, .int .u8 0, .slice Ar rs.length cr, .bool no] rfl rfl (Cells.newAt _ _ _ rfl) (by simp [Value.oneCell']) (by omega) (by unfold maxLen; omega) (by rw [World.size_alloc]; omega) ?_; intro A7 c7 w7 ho7 hg7; have HO7 := Lib.hid ho7; have HG7 := Lib.hid hg7; clear ho7 hg7)
                              | fail)
                            have HNX : Hid (gl.ItemsAt w7 (w.heap.size + 1) A7 c7 (acc ++ [.set rs no]) ∧ Below w.heap.size w w7 ∧ w7.cell? ⟨w.heap.size, 0, none⟩ = some (.string (strOf s))) := Lib.hid ⟨HIT5.out.snoc (balloc (bself wc) _) HG7.out HX5.out HO7.out HREP.out, Grew.step (bnext (bnext HW.out.2.1 HSW.out.bel) (balloc (bself wc) _)) HG7.out (fun k hk => by have := (HIT.out.lt k hk).1; omega), (HG7.out.cell 0 (by rw [World.size_alloc]; omega) (fun k hk => by have := (HIT.out.lt k hk).1; omega)).trans (((balloc (bself wc) _).cell (p := ⟨w.heap.size, 0, none⟩) (by simp only; omega)).trans hbox5)⟩
                            go_roundw
                            case rel => exact ⟨acc ++ [.set rs no], k + 1, A7, c7, by rw [List.length_append]; rfl, by go_num, by omega, by rw [List.length_append, List.length_singleton]; omega, Lib.hid (by rw [← HI.out, HCUR.out]; exact (gl.items_on HST.out).symm), HNX⟩
                            case measure => simp [intOf]; omega
              · obtain ⟨k4, k4'⟩ := u8_no 91 h91 rfl
                have HST : Hid (gl.step a (s.drop (i + 1)) = some ((.eq a), s.drop (i + 1))) := Lib.hid (by unfold gl.step; rw [if_neg h63, if_neg h42, if_neg h91, if_neg h92])
                clear h63 h42 h91 h92
                go_wp2_with (first
                  | (at_builtin; refine wp_app _ rfl _ _ _ rfl gl.elemR (w.heap.size + 1) A acc.length c xs rfl (HX.out.1.alloc _) _ 1 1 [.int .u8 61, .int .u8 a.toNat, .slice none 0 0, .bool false] rfl rfl (Cells.newAt _ _ _ rfl) (by simp [Value.oneCell']) (by omega) (by unfold maxLen; omega) (by rw [World.size_alloc]; omega) ?_; intro A7 c7 w7 ho7 hg7; have HO7 := Lib.hid ho7; have HG7 := Lib.hid hg7; clear ho7 hg7)
                  | fail)
                have HNX : Hid (gl.ItemsAt w7 (w.heap.size + 1) A7 c7 (acc ++ [(.eq a)]) ∧ Below w.heap.size w w7 ∧ w7.cell? ⟨w.heap.size, 0, none⟩ = some (.string (strOf s))) := Lib.hid ⟨HIT.out.snoc (balloc (bself wr) _) HG7.out HX.out HO7.out (gl.plain_rep rfl _ rfl), Grew.step (bnext HW.out.2.1 (balloc (bself wr) _)) HG7.out (fun k hk => by have := (HIT.out.lt k hk).1; omega), (HG7.out.cell 0 (by rw [World.size_alloc]; omega) (fun k hk => by have := (HIT.out.lt k hk).1; omega)).trans (((balloc (bself wr) _).cell (p := ⟨w.heap.size, 0, none⟩) (by simp only; omega)).trans HW.out.2.2)⟩
                go_roundw
                case rel => exact ⟨acc ++ [(.eq a)], i + 1, A7, c7, by rw [List.length_append]; rfl, by go_num, by omega, by rw [List.length_append, List.length_singleton]; omega, Lib.hid (by rw [← HI.out, HCUR.out]; exact (gl.items_on HST.out).symm), HNX⟩
                case measure => simp [intOf]; omega
      · obtain rfl : i = s.length := by omega
        have h : gl.parse s = some acc := by rw [HPS.out, ← HI.out, List.drop_length, gl.items_nil]
        have HPA := Lib.hid h
        clear h
        go_wp2
        go_ret2
        exact ⟨⟨A, acc.length, c, by rw [HPA.out]; rfl, fun l hl => by rw [HPA.out] at hl; cases hl; exact ⟨rfl, by omega, HIT.out.rep⟩⟩, HW.out.2.1⟩
end Go.Proofs.Ytldoihbblgnpjaa
