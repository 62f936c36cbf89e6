/- TopSealed: the walk. No condition. -/
import Derived.Test.YtedbidblnjajdaaSealed2
namespace Go.Proofs.Ytedbidblnjajdaa
open Go.RowKit

set_option maxHeartbeats 400000 in
theorem top_sameBytes (l : List UInt8) (A A' : Option Addr) (c c' : Nat) (S S' : Nat → Prop) (w : World) (hl : SlRep Rep.u8 w S l A c) (hl' : SlRep Rep.u8 w S' l A' c') (hn : l.length ≤ 9223372036854775807) :
    Calls Try.prog 40 #[.slice A l.length c, .slice A' l.length c'] w fun e w' => e = .returned (.bool true) ∧ Below w.heap.size w w' := by
  have HL := Lib.hid hl
  have HL' := Lib.hid hl'
  clear hl hl'
  go_enter Try.func40, Try.ntmps40
  go_wp2
  go_loopw [5] (fun i wr => ∃ k m : Nat, k ≤ l.length ∧ i = .int .i64 k ∧ wr = w.drewN m) (fun i _ => l.length - (intOf i).toNat)
  case atStart => exact ⟨0, 0, by omega, rfl, rfl⟩
  case round =>
    obtain ⟨k, m, hk, rfl, rfl⟩ := hrel
    by_cases hlt : k < l.length
    · obtain ⟨b, o, rfl, _, hc1⟩ := u8_at HL.out hlt
      obtain ⟨b', o', rfl, _, hc2⟩ := u8_at HL'.out hlt
      have hlt' : (k : Int) < (l.length : Int) := by omega
      generalize (l.getD k 0).toNat = x at *
      go_wp2
      go_quiet (fail)
      go_wp2
      go_roundw
      case rel => exact ⟨k + 1, _, by omega, by go_num, rfl⟩
      case measure => simp [intOf]; omega
    · go_wp2
      go_ret
      exact ⟨rfl, bdrewN (bself w) m⟩

theorem four_cells {w : World} {base : Nat} {A : Option Addr} {n c : Nat} {b : List UInt8} (h10 : 10 ≤ b.length) (h : Own w base 5 1 A n c (b.map u8v)) :
    ∃ g v4 v5 v8 v9, A = some ⟨g, 0, none⟩ ∧ base ≤ g ∧ w.cell? ⟨g, 4, none⟩ = some v4 ∧ w.cell? ⟨g, 5, none⟩ = some v5 ∧ w.cell? ⟨g, 8, none⟩ = some v8 ∧ w.cell? ⟨g, 9, none⟩ = some v9 ∧ (∀ o, w.frozen? ⟨g, o, none⟩ = false) ∧ g < w.heap.size := by
  have at_ : ∀ j, j < b.length → ∃ v, (b.map u8v)[j]? = some v := fun j hj => ⟨_, by rw [List.getElem?_map, List.getElem?_eq_getElem hj]; rfl⟩
  obtain ⟨v4, h4⟩ := at_ 4 (by omega)
  obtain ⟨v5, h5⟩ := at_ 5 (by omega)
  obtain ⟨v8, h8⟩ := at_ 8 (by omega)
  obtain ⟨v9, h9⟩ := at_ 9 (by omega)
  obtain ⟨g, e, hb, hg, k4⟩ := h.cell h4
  subst e
  have same : ∀ {j : Nat} {v : Value}, (b.map u8v)[j]? = some v → w.cell? ⟨g, j, none⟩ = some v := fun hj => by
    obtain ⟨g', e', _, _, hc⟩ := h.cell hj
    simp only [Option.some.injEq, Addr.mk.injEq, and_true] at e'
    subst e'
    exact hc
  exact ⟨g, v4, v5, v8, v9, rfl, hb, k4, same h5, same h8, same h9, h.frozen_, hg⟩
set_option maxRecDepth 100000 in
set_option maxHeartbeats 4000000 in
theorem lawTopSealed_walk (a : Int) (ha : IntOk a) (b : Int) (hb : IntOk b) (c : Int) (hc : IntOk c) (d : List UInt8) (A : Option Addr) (cd : Nat) (w : World) (hl : SlRep Rep.u8 w (· < w.heap.size) d A cd) (hok : AllOk 1 AnyOk d) (window : Int) (hwin : IntOk window) :
    Calls Try.prog 11 #[.int .i64 a, .int .i64 b, .int .i64 c, .slice A d.length cd, .int .i64 window] w fun e w' => e = .returned (.bool true) ∧ Below w.heap.size w w' := by
  have hn : d.length ≤ 140737488351232 := by have := hok.2; omega
  have KS := Lib.hid (keep_Seg a b c ha hb hc d A cd w hl hn)
  have KP := Lib.hid (keep_Picked window 65536 hwin (by omega))
  have hfit : sg.Fits (a % 65536) (b % 65536) (c % 65536) (d.take 64) := ⟨by omega, by omega, by omega, by rw [List.length_take]; omega⟩
  have hv : 0 ≤ window % 65536 ∧ window % 65536 < 65536 := by omega
  clear ha hb hc hl hok hwin
  generalize a % 65536 = a' at *
  generalize b % 65536 = b' at *
  generalize c % 65536 = c' at *
  generalize window % 65536 = v at *
  obtain ⟨d', hd'⟩ : ∃ d', d' = d.take 64 := ⟨_, rfl⟩
  rw [← hd'] at KS hfit
  clear hd'
  have HFIT := Lib.hid hfit
  have hfit2 : sg.Fits a' b' v d' := ⟨hfit.1, hfit.2.1, hv, hfit.2.2.2⟩
  have HFIT2 := Lib.hid hfit2
  have hd64 := hfit.2.2.2
  have hc' := hfit.2.2.1
  clear hfit hfit2
  go_enter Try.func11, Try.ntmps11
  go_wp2_with fail
  refine KS.out.mono ?_
  rintro e w1 ⟨A1, c1, rfl, h1, hb1⟩
  have H1 := Lib.hid h1
  clear h1 KS
  have hcx := segAt_alloc w1 (sg.mk a' b' c' d') none A1 0 c1
  have hE := fun (h0 : SlRep Rng.rep _ _ _ _ _) (h1 : SlRep Rep.u8 _ _ _ _ _) => seg_Encode_res (sg.mk a' b' c' d') none A1 0 c1 (w1.alloc (.cells #[.int .i64 a', .int .i64 b', .int .i64 c', .bool false, .bool false, .bool false, .bool true, .slice none 0 0, .slice A1 d'.length c1] 50)) h0 h1 (by simp [sg.mk]) (by show d'.length ≤ _; omega)
  have hE := hE (sl_nil _ _ _) ((H1.out.keep (S' := fun k => k < w1.heap.size) fun k hk => ⟨hk.2, rfl⟩).next (balloc (bself w1) _))
  rw [sg.enc_mk HFIT.out] at hE
  have HE := Lib.hid hE
  have HCX := Lib.hid hcx
  have hsz : w1.heap.size < (w1.alloc (.cells #[.int .i64 a', .int .i64 b', .int .i64 c', .bool false, .bool false, .bool false, .bool true, .slice none 0 0, .slice A1 d'.length c1] 50)).heap.size := by simp
  have hb2 : Below w1.heap.size w1 (w1.alloc (.cells #[.int .i64 a', .int .i64 b', .int .i64 c', .bool false, .bool false, .bool false, .bool true, .slice none 0 0, .slice A1 d'.length c1] 50)) := balloc (bself w1) _
  clear hE hcx
  unfold Segment.val sg.mk
  dsimp only
  go_wp2_with fail
  change SegAt (w1.alloc (.cells #[.int .i64 a', .int .i64 b', .int .i64 c', .bool false, .bool false, .bool false, .bool true, .slice none 0 0, .slice A1 d'.length c1] 50)) w1.heap.size (sg.mk a' b' c' d') none 0 A1 c1 at HCX
  generalize w1.alloc (.cells #[.int .i64 a', .int .i64 b', .int .i64 c', .bool false, .bool false, .bool false, .bool true, .slice none 0 0, .slice A1 d'.length c1] 50) = w2 at *
  have hcy := HCX
  have HCX := Lib.hid hcy
  clear hcy
  refine HE.out.mono ?_
  rintro e w3 ⟨A2, c2, rfl, ho3, hb3⟩
  simp only [exL, exC] at ho3 ⊢
  obtain ⟨x, hx⟩ : ∃ x, x = sg.bytes a' b' c' d' := ⟨_, rfl⟩
  rw [← hx] at ho3 ⊢
  have hxl : x.length = 10 + d'.length := by rw [hx]; exact sg.bytes_length a' b' c' d'
  have hxf : foldOf (sumTo x x.length) = 65535 := by rw [hx]; exact sg.bytes_fold a' b' c' d'
  have HX := Lib.hid hx
  obtain ⟨gb, go, hgo, hgb, hc8⟩ := u8_at (k := 8) ho3.u8.2 (by omega)
  obtain ⟨gb', go', hgo', _, hc9⟩ := u8_at (k := 9) ho3.u8.2 (by omega)
  subst hgo
  simp only [Option.some.injEq, Addr.mk.injEq, and_true] at hgo'
  obtain ⟨rfl, rfl⟩ := hgo'
  change _ = some (Value.int .u8 (sg.byteAt x 8)) at hc8
  change _ = some (Value.int .u8 (sg.byteAt x 9)) at hc9
  have hx8 := sg.byteAt_bd x 8
  have hx9 := sg.byteAt_bd x 9
  have hbo := bits_or_hi _ _ hx8 hx9
  have HW16 : Hid (sg.byteAt x 8 * 256 + sg.byteAt x 9 = sg.w16 x 8) := Lib.hid rfl
  have hmend : 65535 - foldOf (65535 - (sg.byteAt x 8 * 256 + sg.byteAt x 9) + 65535 - c' + v) = sg.sumOf (sg.bare (sg.mk a' b' v d')) := by
    rw [HW16.out, hx]
    exact sg.mended HFIT.out hv
  have hFold := inet_Fold x (some ⟨gb, go, none⟩) c2 _ w3 ho3.u8.2 (by omega)
  rw [hxf] at hFold
  have HFO := Lib.hid hFold
  have HO3 := Lib.hid ho3
  have hsz3 := hb3.size
  have hgl := hgb.2
  have hge := hgb.1
  have HS3 := HCX.out.below hb3 hsz
  have q0 := HS3.2.1
  have q1 := HS3.2.2.1
  have q2 := HS3.2.2.2.1
  have q9 := HS3.2.2.2.2.2.2.2.2.2
  simp only [sg.mk] at q0 q1 q2 q9
  have HBY := Lib.hid ho3.u8.2.cells_u8
  have hB3 : Below w.heap.size w w3 := bnext (bnext hb1 hb2) hb3
  have hsz1 := hb1.size
  obtain ⟨sm, HSM⟩ : ∃ sm, Hid (sg.sumOf (sg.bare (sg.mk a' b' v d')) = sm) := ⟨_, Lib.hid rfl⟩
  rw [HSM.out] at hmend
  have hsm := sg.sum16 (sg.bare (sg.mk a' b' v d'))
  rw [HSM.out] at hsm
  clear ho3 hgb hx hxf hFold HS3 HE
  have hw8 := IntWalk.i64_in (sg.byteAt x 8) (by omega)
  have hw9 := IntWalk.i64_in (sg.byteAt x 9) (by omega)
  have hw10 := IntWalk.i64_in (sg.byteAt x 8 * 256) (by omega)
  generalize sg.byteAt x 8 = x8 at *
  generalize sg.byteAt x 9 = x9 at *
  have hU := Lib.hid (fun W => inet_Update_ok (x8 * 256 + x9) c' v (by omega) (by omega) (by omega) (by omega) (by omega) (by omega) W)
  rw [hmend] at hU
  clear hmend
  obtain ⟨n, hxn⟩ : ∃ n, n = x.length := ⟨_, rfl⟩
  rw [← hxn] at HFO ⊢
  have hn10 : 10 + d'.length = n := by omega
  have HXN := Lib.hid hxn
  clear hxn hxl
  have hl10 : ¬ ((n : Int) < 10) := by omega
  have h8' : (8 : Int) < (n : Int) := by omega
  have h9' : (9 : Int) < (n : Int) := by omega
  have h4' : (4 : Int) < (n : Int) := by omega
  have h5' : (5 : Int) < (n : Int) := by omega
  have HLT : Hid (w1.heap.size < w3.heap.size) := Lib.hid (by omega)
  by_cases hev : (n : Int) % 2 = 0
  · go_wp2_with (first
      | (go_at_call 37; refine HFO.out.mono ?_; rintro e w4 ⟨rfl, rfl⟩)
      | (go_at_call 38; refine (KP.out _).mono ?_; rintro e w4 ⟨rfl, rfl⟩)
      | fail)
    clear KP HFO
    go_region_held3 (fun w' => w'.cell? ⟨gb, go + 8, none⟩ = some (.int .u8 x8) ∧ w'.cell? ⟨gb, go + 9, none⟩ = some (.int .u8 x9) ∧ w'.cell? ⟨w1.heap.size, 2, none⟩ = some (.int .i64 c'))
      (first
        | go_keep
        | (exact ⟨(hb7.cell (p := ⟨gb, go + 8, none⟩) (by exact hgl)).trans hc8, (hb7.cell (p := ⟨gb, go + 9, none⟩) (by exact hgl)).trans hc9, (hb7.cell (p := ⟨w1.heap.size, 2, none⟩) (by exact HLT.out)).trans q2⟩)
        | fail)
      (first
        | (go_at_call 39; refine (hU.out _).mono ?_; rintro e w7 ⟨rfl, hb7⟩)
        | fail)
    all_goals
      have hb7' : Below w3.heap.size w3 w7 := Below.trans (Below.drew (Below.refl _ _)) hb7
      have HB7 := Lib.hid hb7'
      have hz7 := hb7'.size
      clear hb7 hb7' hc8 hc9 q2 hU hbo hw8 hw9 hw10
      go_wp2_with (at_builtin; (refine wp_app _ rfl _ _ _ rfl elemU8 w7.heap.size none 0 0 [] rfl (Own.nil _ _ _ _) (some ⟨gb, go, none⟩) n c2 (x.map u8v) rfl (by rw [List.length_map, ← HXN.out, Nat.mul_one]) (HBY.out.below HB7.out (fun k hk => by cases hk; exact hgl)) (oneCell_u8 _) (by omega) (by unfold maxLen; omega) (Nat.le_refl _) ?_; intro A9 c9 w9 hO9 hg9; simp only [Nat.zero_add, List.nil_append] at hO9 ⊢; obtain ⟨g, v4, v5, v8, v9, rfl, hg, k4, k5, k8, k9, kf, kl⟩ := four_cells (by rw [← HXN.out]; omega) hO9; have HO9 := Lib.hid hO9; have hb9 := hg9.below (Nat.le_refl _) (fun k hk => by cases hk); clear hO9 hg9))
      have HY : Hid (Own ((((w9.setCell ⟨g, 4, none⟩ (.int .u8 (v / 256))).setCell ⟨g, 5, none⟩ (.int .u8 (v % 256))).setCell ⟨g, 8, none⟩ (.int .u8 (sm / 256))).setCell ⟨g, 9, none⟩ (.int .u8 (sm % 256))) w7.heap.size 5 1 (some ⟨g, 0, none⟩) n c9 ((sg.bytes a' b' v d').map u8v)) := Lib.hid (by
        have h := (((HO9.out.set (j := 4) (.int .u8 (v / 256))).set (j := 5) (.int .u8 (v % 256))).set (j := 8) (.int .u8 (sm / 256))).set (j := 9) (.int .u8 (sm % 256))
        have u : ∀ z : Int, 0 ≤ z ∧ z < 65536 → u8v (byteOf (z / 256)) = .int .u8 (z / 256) ∧ u8v (byteOf z) = .int .u8 (z % 256) := fun z hz => by
          unfold u8v
          rw [byteOf_toNat, byteOf_toNat, Int.emod_eq_of_lt (by omega) (by omega)]
          exact ⟨rfl, rfl⟩
        rw [← sg.bytes_set (c := c'), HSM.out, ← HX.out, List.map_set, List.map_set, List.map_set, List.map_set, (u v hv).1, (u v hv).2, (u sm hsm).1, (u sm hsm).2]
        exact h)
      have HB10 : Hid (Below w3.heap.size w3 ((((w9.setCell ⟨g, 4, none⟩ (.int .u8 (v / 256))).setCell ⟨g, 5, none⟩ (.int .u8 (v % 256))).setCell ⟨g, 8, none⟩ (.int .u8 (sm / 256))).setCell ⟨g, 9, none⟩ (.int .u8 (sm % 256)))) := Lib.hid (
        ((((HB7.out.trans (hb9.mono hz7)).setCell (p := ⟨g, 4, none⟩) (by show w3.heap.size ≤ g; omega) _).setCell (p := ⟨g, 5, none⟩) (by show w3.heap.size ≤ g; omega) _).setCell (p := ⟨g, 8, none⟩) (by show w3.heap.size ≤ g; omega) _).setCell (p := ⟨g, 9, none⟩) (by show w3.heap.size ≤ g; omega) _)
      generalize (((w9.setCell ⟨g, 4, none⟩ (.int .u8 (v / 256))).setCell ⟨g, 5, none⟩ (.int .u8 (v % 256))).setCell ⟨g, 8, none⟩ (.int .u8 (sm / 256))).setCell ⟨g, 9, none⟩ (.int .u8 (sm % 256)) = w10 at *
      clear k4 k5 k8 k9 kf kl hb9 HO9 hg
      have hyl : n = (sg.bytes a' b' v d').length := by rw [sg.bytes_length]; omega
      have hD := seg_Decode_all (sg.bytes a' b' v d') (some ⟨g, 0, none⟩) c9 w10 (HY.out.u8.2.keep fun k hk => ⟨hk.2, rfl⟩) (by omega)
      rw [sg.dec_bytes HFIT2.out, ← hyl] at hD
      clear hyl
      refine hD.mono ?_
      intro e w11 hr
      obtain ⟨A12, c12, A13, c13, rfl, _, h3, hb11⟩ := hr.wide
      clear hD hr
      have HB11 : Hid (Below w3.heap.size w3 w11) := Lib.hid (HB10.out.trans (hb11.mono HB10.out.size))
      have hlt11 : w1.heap.size < w11.heap.size := Nat.lt_of_lt_of_le HLT.out HB11.out.size
      have p0 := (HB11.out.cell (p := ⟨w1.heap.size, 0, none⟩) HLT.out).trans q0
      have p1 := (HB11.out.cell (p := ⟨w1.heap.size, 1, none⟩) HLT.out).trans q1
      have p9 := (HB11.out.cell (p := ⟨w1.heap.size, 8, none⟩) HLT.out).trans q9
      have hBW : Below w.heap.size w w11 := hB3.trans (HB11.out.mono (by omega))
      have HD1 : Hid (SlRep Rep.u8 w11 (· < w11.heap.size) d' A1 c1) := Lib.hid (H1.out.keep fun k hk => ⟨by omega, by rw [HB11.out.block k (by omega), hb3.block k (by omega), hb2.block k hk.2]⟩)
      simp only [segOr, exC] at h3 ⊢
      have HD2 : Hid (SlRep Rep.u8 w11 (· < w11.heap.size) d' A13 c13) := Lib.hid h3
      clear h3 q0 q1 q9 HY HB10 HB11 HB7 hb11 HFIT HFIT2 HSM HX
      have KSB := Lib.hid (fun W (hb : Below w11.heap.size w11 W) => top_sameBytes d' A13 A1 c13 c1 _ _ W (HD2.out.next hb) (HD1.out.next hb) (by omega))
      clear HD1 HD2
      unfold Segment.val sg.mk
      dsimp only
      have e1 : (v == v) = true := by simp
      have e2 : (a' == a') = true := by simp
      have e3 : (b' == b') = true := by simp
      generalize d'.length = m at *
      go_wp2_with (go_at_call 40; refine (KSB.out _ (balloc (bself w11) _)).mono ?_; rintro e w12 ⟨rfl, hb12⟩)
      go_ret
      exact ⟨rfl, (by repeat (first | (with_reducible exact Below.refl _ _) | (with_reducible assumption) | (with_reducible refine bset ?_ ?_ _) | (with_reducible refine balloc ?_ _) | (with_reducible refine Below.drew ?_) | (with_reducible refine bdrewN ?_ _) | (with_reducible refine bnext ?_ (by with_reducible assumption)) | exact Nat.le_refl _ | (simp; done) | omega | (simp; omega)))⟩
  · go_wp2_with (first
      | (go_at_call 37; refine HFO.out.mono ?_; rintro e w4 ⟨rfl, rfl⟩)
      | (go_at_call 38; refine (KP.out _).mono ?_; rintro e w4 ⟨rfl, rfl⟩)
      | fail)
    clear KP HFO
    go_region_held3 (fun w' => w'.cell? ⟨gb, go + 8, none⟩ = some (.int .u8 x8) ∧ w'.cell? ⟨gb, go + 9, none⟩ = some (.int .u8 x9) ∧ w'.cell? ⟨w1.heap.size, 2, none⟩ = some (.int .i64 c'))
      (first
        | go_keep
        | (exact ⟨(hb7.cell (p := ⟨gb, go + 8, none⟩) (by exact hgl)).trans hc8, (hb7.cell (p := ⟨gb, go + 9, none⟩) (by exact hgl)).trans hc9, (hb7.cell (p := ⟨w1.heap.size, 2, none⟩) (by exact HLT.out)).trans q2⟩)
        | fail)
      (first
        | (go_at_call 39; refine (hU.out _).mono ?_; rintro e w7 ⟨rfl, hb7⟩)
        | fail)
    all_goals
      have hb7' : Below w3.heap.size w3 w7 := Below.trans (Below.drew (Below.refl _ _)) hb7
      have HB7 := Lib.hid hb7'
      have hz7 := hb7'.size
      clear hb7 hb7' hc8 hc9 q2 hU hbo hw8 hw9 hw10
      go_wp2_with (at_builtin; (refine wp_app _ rfl _ _ _ rfl elemU8 w7.heap.size none 0 0 [] rfl (Own.nil _ _ _ _) (some ⟨gb, go, none⟩) n c2 (x.map u8v) rfl (by rw [List.length_map, ← HXN.out, Nat.mul_one]) (HBY.out.below HB7.out (fun k hk => by cases hk; exact hgl)) (oneCell_u8 _) (by omega) (by unfold maxLen; omega) (Nat.le_refl _) ?_; intro A9 c9 w9 hO9 hg9; simp only [Nat.zero_add, List.nil_append] at hO9 ⊢; obtain ⟨g, v4, v5, v8, v9, rfl, hg, k4, k5, k8, k9, kf, kl⟩ := four_cells (by rw [← HXN.out]; omega) hO9; have HO9 := Lib.hid hO9; have hb9 := hg9.below (Nat.le_refl _) (fun k hk => by cases hk); clear hO9 hg9))
      have HY : Hid (Own ((((w9.setCell ⟨g, 4, none⟩ (.int .u8 (v / 256))).setCell ⟨g, 5, none⟩ (.int .u8 (v % 256))).setCell ⟨g, 8, none⟩ (.int .u8 (sm / 256))).setCell ⟨g, 9, none⟩ (.int .u8 (sm % 256))) w7.heap.size 5 1 (some ⟨g, 0, none⟩) n c9 ((sg.bytes a' b' v d').map u8v)) := Lib.hid (by
        have h := (((HO9.out.set (j := 4) (.int .u8 (v / 256))).set (j := 5) (.int .u8 (v % 256))).set (j := 8) (.int .u8 (sm / 256))).set (j := 9) (.int .u8 (sm % 256))
        have u : ∀ z : Int, 0 ≤ z ∧ z < 65536 → u8v (byteOf (z / 256)) = .int .u8 (z / 256) ∧ u8v (byteOf z) = .int .u8 (z % 256) := fun z hz => by
          unfold u8v
          rw [byteOf_toNat, byteOf_toNat, Int.emod_eq_of_lt (by omega) (by omega)]
          exact ⟨rfl, rfl⟩
        rw [← sg.bytes_set (c := c'), HSM.out, ← HX.out, List.map_set, List.map_set, List.map_set, List.map_set, (u v hv).1, (u v hv).2, (u sm hsm).1, (u sm hsm).2]
        exact h)
      have HB10 : Hid (Below w3.heap.size w3 ((((w9.setCell ⟨g, 4, none⟩ (.int .u8 (v / 256))).setCell ⟨g, 5, none⟩ (.int .u8 (v % 256))).setCell ⟨g, 8, none⟩ (.int .u8 (sm / 256))).setCell ⟨g, 9, none⟩ (.int .u8 (sm % 256)))) := Lib.hid (
        ((((HB7.out.trans (hb9.mono hz7)).setCell (p := ⟨g, 4, none⟩) (by show w3.heap.size ≤ g; omega) _).setCell (p := ⟨g, 5, none⟩) (by show w3.heap.size ≤ g; omega) _).setCell (p := ⟨g, 8, none⟩) (by show w3.heap.size ≤ g; omega) _).setCell (p := ⟨g, 9, none⟩) (by show w3.heap.size ≤ g; omega) _)
      generalize (((w9.setCell ⟨g, 4, none⟩ (.int .u8 (v / 256))).setCell ⟨g, 5, none⟩ (.int .u8 (v % 256))).setCell ⟨g, 8, none⟩ (.int .u8 (sm / 256))).setCell ⟨g, 9, none⟩ (.int .u8 (sm % 256)) = w10 at *
      clear k4 k5 k8 k9 kf kl hb9 HO9 hg
      have hyl : n = (sg.bytes a' b' v d').length := by rw [sg.bytes_length]; omega
      have hD := seg_Decode_all (sg.bytes a' b' v d') (some ⟨g, 0, none⟩) c9 w10 (HY.out.u8.2.keep fun k hk => ⟨hk.2, rfl⟩) (by omega)
      rw [sg.dec_bytes HFIT2.out, ← hyl] at hD
      clear hyl
      refine hD.mono ?_
      intro e w11 hr
      obtain ⟨A12, c12, A13, c13, rfl, _, h3, hb11⟩ := hr.wide
      clear hD hr
      have HB11 : Hid (Below w3.heap.size w3 w11) := Lib.hid (HB10.out.trans (hb11.mono HB10.out.size))
      have hlt11 : w1.heap.size < w11.heap.size := Nat.lt_of_lt_of_le HLT.out HB11.out.size
      have p0 := (HB11.out.cell (p := ⟨w1.heap.size, 0, none⟩) HLT.out).trans q0
      have p1 := (HB11.out.cell (p := ⟨w1.heap.size, 1, none⟩) HLT.out).trans q1
      have p9 := (HB11.out.cell (p := ⟨w1.heap.size, 8, none⟩) HLT.out).trans q9
      have hBW : Below w.heap.size w w11 := hB3.trans (HB11.out.mono (by omega))
      have HD1 : Hid (SlRep Rep.u8 w11 (· < w11.heap.size) d' A1 c1) := Lib.hid (H1.out.keep fun k hk => ⟨by omega, by rw [HB11.out.block k (by omega), hb3.block k (by omega), hb2.block k hk.2]⟩)
      simp only [segOr, exC] at h3 ⊢
      have HD2 : Hid (SlRep Rep.u8 w11 (· < w11.heap.size) d' A13 c13) := Lib.hid h3
      clear h3 q0 q1 q9 HY HB10 HB11 HB7 hb11 HFIT HFIT2 HSM HX
      have KSB := Lib.hid (fun W (hb : Below w11.heap.size w11 W) => top_sameBytes d' A13 A1 c13 c1 _ _ W (HD2.out.next hb) (HD1.out.next hb) (by omega))
      clear HD1 HD2
      unfold Segment.val sg.mk
      dsimp only
      have e1 : (v == v) = true := by simp
      have e2 : (a' == a') = true := by simp
      have e3 : (b' == b') = true := by simp
      generalize d'.length = m at *
      go_wp2_with (go_at_call 40; refine (KSB.out _ (balloc (bself w11) _)).mono ?_; rintro e w12 ⟨rfl, hb12⟩)
      go_ret
      exact ⟨rfl, (by repeat (first | (with_reducible exact Below.refl _ _) | (with_reducible assumption) | (with_reducible refine bset ?_ ?_ _) | (with_reducible refine balloc ?_ _) | (with_reducible refine Below.drew ?_) | (with_reducible refine bdrewN ?_ _) | (with_reducible refine bnext ?_ (by with_reducible assumption)) | exact Nat.le_refl _ | (simp; done) | omega | (simp; omega)))⟩
end Go.Proofs.Ytedbidblnjajdaa
