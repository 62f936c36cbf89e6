/- Package delta: the reference of Patch. No condition. -/
import Derived.Test.YtedbidblnjajdaaDelta
namespace Go.Proofs.Ytedbidblnjajdaa
open Go.RowKit

set_option maxRecDepth 100000 in
set_option maxHeartbeats 4000000 in
theorem ref_Patch_any (old : List UInt8) (A0 : Option Addr) (c0 : Nat) (l : List Piece) (A : Option Addr) (c : Nat) (w : World) (hold : SlRep Rep.u8 w (· < w.heap.size) old A0 c0) (hl : SlRep Piece.rep w (· < w.heap.size) l A c) (ho : old.length ≤ 2048) (hn : l.length ≤ 2048) (hok : ∀ p, p ∈ l → p.data.length ≤ 140737488351232) :
    Calls Try.prog 19 #[.slice A0 old.length c0, .slice A l.length c] w (BytesRes (playTo (dlt.step old) [] l) w) := by
  have HL := Lib.hid hl
  have HD := Lib.hid hold
  have HK := Lib.hid hok
  clear hl hold hok
  go_enter Try.func19, Try.ntmps19
  go_wp2
  go_loopw [6, 20] (fun out i wr => ∃ (k : Nat) (o : List UInt8) (A' : Option Addr) (c' : Nat), k ≤ l.length ∧ i = .int .i64 k ∧ out = .slice A' o.length c' ∧ o.length ≤ 2048 ∧ Hid (playTo (dlt.step old) o (l.drop k) = playTo (dlt.step old) [] l) ∧ Hid (Own wr w.heap.size 5 1 A' o.length c' (o.map u8v)) ∧ Below w.heap.size w wr) (fun _ i _ => l.length - (intOf i).toNat)
  case atStart => exact ⟨0, [], none, 0, Nat.zero_le _, rfl, rfl, by simp, Lib.hid rfl, Lib.hid (Own.nil _ _ _ _), bself w⟩
  case round =>
    obtain ⟨k, o, A', c', hk, rfl, rfl, hol, HP, HO, hB⟩ := hrel
    by_cases hlt : k < l.length
    · obtain ⟨bb, oo, rfl, hbb, A1, c1, hc1, hc2, hc3, hc4, hdt⟩ := Piece.cells_at dlt.z (HL.out.below hB) hlt
      rename World => wo
      have hbw : bb < wo.heap.size := Nat.lt_of_lt_of_le hbb hB.size
      have hsz := hB.size
      have HS := Lib.hid (fun s' => play_ok (s := o) (s' := s') (step := dlt.step old) dlt.z hlt)
      have HN := Lib.hid (fun e => play_no (s := o) (e := e) (step := dlt.step old) dlt.z hlt)
      have hkd : (l.getD k dlt.z).data.length ≤ 140737488351232 := HK.out _ (by rw [List.getD_eq_getElem?_getD, List.getElem?_eq_getElem hlt]; exact List.getElem_mem _)
      clear HL HK
      generalize l.getD k dlt.z = t at *
      obtain ⟨cp, fr, ln, dt⟩ := t
      have HT := Lib.hid hdt
      clear hdt
      dsimp only at hc1 hc2 hc3 hc4 hkd
      cases cp with
      | true =>
        by_cases h1 : 0 < dt.length
        · have HR : Hid (playTo (dlt.step old) [] l = .error 4) := Lib.hid (by rw [← HP.out]; exact HN.out 4 (by unfold dlt.step; rw [if_pos rfl, if_pos h1]))
          clear HS HN HO HP HT HD
          go_wp2
          go_ret2
          exact BytesRes.no HR.out (by repeat (first | (with_reducible exact Below.refl _ _) | (with_reducible assumption) | (with_reducible refine bset ?_ ?_ _) | (with_reducible refine balloc ?_ _) | (with_reducible refine Below.drew ?_) | (with_reducible refine bdrewN ?_ _) | (with_reducible refine bnext ?_ (by with_reducible assumption)) | exact Nat.le_refl _ | (simp; done) | omega | (simp; omega)))
        · by_cases h2 : fr < 0
          · have HR : Hid (playTo (dlt.step old) [] l = .error 2) := Lib.hid (by rw [← HP.out]; exact HN.out 2 (by unfold dlt.step; rw [if_pos rfl, if_neg h1, if_pos (.inl h2)]))
            clear HS HN HO HP HT HD
            go_wp2
            go_ret2
            exact BytesRes.no HR.out (by repeat (first | (with_reducible exact Below.refl _ _) | (with_reducible assumption) | (with_reducible refine bset ?_ ?_ _) | (with_reducible refine balloc ?_ _) | (with_reducible refine Below.drew ?_) | (with_reducible refine bdrewN ?_ _) | (with_reducible refine bnext ?_ (by with_reducible assumption)) | exact Nat.le_refl _ | (simp; done) | omega | (simp; omega)))
          · have h2' : 0 ≤ fr := by omega
            by_cases h3 : ln < 0
            · have HR : Hid (playTo (dlt.step old) [] l = .error 2) := Lib.hid (by rw [← HP.out]; exact HN.out 2 (by unfold dlt.step; rw [if_pos rfl, if_neg h1, if_pos (.inr (.inl h3))]))
              clear HS HN HO HP HT HD
              go_wp2
              go_ret2
              exact BytesRes.no HR.out (by repeat (first | (with_reducible exact Below.refl _ _) | (with_reducible assumption) | (with_reducible refine bset ?_ ?_ _) | (with_reducible refine balloc ?_ _) | (with_reducible refine Below.drew ?_) | (with_reducible refine bdrewN ?_ _) | (with_reducible refine bnext ?_ (by with_reducible assumption)) | exact Nat.le_refl _ | (simp; done) | omega | (simp; omega)))
            · have h3' : 0 ≤ ln := by omega
              by_cases h4 : (old.length : Int) < fr
              · have HR : Hid (playTo (dlt.step old) [] l = .error 2) := Lib.hid (by rw [← HP.out]; exact HN.out 2 (by unfold dlt.step; rw [if_pos rfl, if_neg h1, if_pos (.inr (.inr (.inl h4)))]))
                clear HS HN HO HP HT HD
                go_wp2
                go_ret2
                exact BytesRes.no HR.out (by repeat (first | (with_reducible exact Below.refl _ _) | (with_reducible assumption) | (with_reducible refine bset ?_ ?_ _) | (with_reducible refine balloc ?_ _) | (with_reducible refine Below.drew ?_) | (with_reducible refine bdrewN ?_ _) | (with_reducible refine bnext ?_ (by with_reducible assumption)) | exact Nat.le_refl _ | (simp; done) | omega | (simp; omega)))
              · have h4' : fr ≤ (old.length : Int) := by omega
                by_cases h5 : (old.length : Int) - fr < ln
                · have HR : Hid (playTo (dlt.step old) [] l = .error 2) := Lib.hid (by rw [← HP.out]; exact HN.out 2 (by unfold dlt.step; rw [if_pos rfl, if_neg h1, if_pos (.inr (.inr (.inr h5)))]))
                  clear HS HN HO HP HT HD
                  go_wp2
                  all_goals
                    go_ret2
                    exact BytesRes.no HR.out (by repeat (first | (with_reducible exact Below.refl _ _) | (with_reducible assumption) | (with_reducible refine bset ?_ ?_ _) | (with_reducible refine balloc ?_ _) | (with_reducible refine Below.drew ?_) | (with_reducible refine bdrewN ?_ _) | (with_reducible refine bnext ?_ (by with_reducible assumption)) | exact Nat.le_refl _ | (simp; done) | omega | (simp; omega)))
                · have h5' : ln ≤ (old.length : Int) - fr := by omega
                  obtain ⟨f, rfl⟩ : ∃ f : Nat, fr = f := ⟨fr.toNat, by omega⟩
                  obtain ⟨n, rfl⟩ : ∃ n : Nat, ln = n := ⟨ln.toNat, by omega⟩
                  obtain rfl : dt = [] := List.eq_nil_of_length_eq_zero (by omega)
                  simp only [List.length_nil] at hc4
                  have HST : Hid (dlt.step old o ⟨true, f, n, []⟩ = dlt.over (o ++ (old.drop f).take n)) := Lib.hid (by unfold dlt.step; rw [if_pos rfl, if_neg h1, if_neg (by unfold dlt.bad; dsimp only; omega)]; rfl)
                  obtain ⟨w3, hw3⟩ : ∃ w3, w3 = wo.alloc (.cells #[.bool true, .int .i64 f, .int .i64 n, .slice A1 0 c1] 87) := ⟨_, rfl⟩
                  have hx1 : w3.cell? ⟨wo.heap.size, 1, none⟩ = some (.int .i64 f) := by rw [hw3]; simp [go_sem]
                  have hx2 : w3.cell? ⟨wo.heap.size, 2, none⟩ = some (.int .i64 n) := by rw [hw3]; simp [go_sem]
                  have hs3 : wo.heap.size < w3.heap.size := by rw [hw3]; simp
                  have HO1 : Hid (Own w3 w.heap.size 5 1 A' o.length c' (o.map u8v)) := Lib.hid (by rw [hw3]; exact HO.out.alloc _)
                  have hb3 : Below wo.heap.size wo w3 := by rw [hw3]; exact balloc (bself wo) _
                  have hbw3 : Below w.heap.size w w3 := bnext hB hb3
                  go_wp2
                  rw [← hw3]
                  clear hw3 hc1 hc2 hc3 hc4
                  have HX1 := Lib.hid hx1
                  have HX2 := Lib.hid hx2
                  clear hx1 hx2
                  go_loopw [6, 9] (fun out i wr => ∃ (j : Nat) (A2 : Option Addr) (c2 : Nat), j ≤ n ∧ i = .int .i64 j ∧ out = .slice A2 (o.length + j) c2 ∧ Hid (Own wr w.heap.size 5 1 A2 (o.length + j) c2 ((o ++ (old.drop f).take j).map u8v)) ∧ Grew w3 wr A' A2) (fun _ i _ => n - (intOf i).toNat)
                  case atStart => exact ⟨0, A', c', Nat.zero_le _, rfl, rfl, Lib.hid (by rw [List.take_zero, List.append_nil]; exact HO1.out), Grew.refl _ _⟩
                  case round =>
                    obtain ⟨j, A2, c2, hj, rfl, rfl, HO2, hg⟩ := hrel
                    rename World => wj
                    have hsj := hg.grown.size
                    have hbj : Below w.heap.size w wj := Grew.step hbw3 hg (fun x hx => (HO.out.lt x hx).1)
                    have hsb := hbj.size
                    have hdx := hg.cell (b := wo.heap.size) 1 hs3 (fun x hx => by have := (HO.out.lt x hx).2; omega)
                    have hdy := hg.cell (b := wo.heap.size) 2 hs3 (fun x hx => by have := (HO.out.lt x hx).2; omega)
                    rw [HX1.out] at hdx
                    rw [HX2.out] at hdy
                    have hlw : wo.heap.size < wj.heap.size := by omega
                    by_cases hlj : j < n
                    · obtain ⟨idx, hidx⟩ : ∃ idx : Nat, idx = f + j := ⟨_, rfl⟩
                      obtain ⟨b2, o2, rfl, hb2, hd⟩ := u8_at (k := idx) (HD.out.below hbj) (by omega)
                      have HV : Hid ((o ++ (old.drop f).take (j + 1)).map u8v = (o ++ (old.drop f).take j).map u8v ++ [.int .u8 ((old.getD idx 0).toNat : Int)]) := Lib.hid (by
                        have hdl : j < (old.drop f).length := by rw [List.length_drop]; omega
                        rw [List.take_succ_eq_append_getElem hdl, ← List.append_assoc, List.map_append, hidx]
                        congr 1
                        rw [List.getElem_drop, List.getD_eq_getElem?_getD, List.getElem?_eq_getElem (by omega)]
                        rfl)
                      have hie : ((f : Int) + (j : Int)) = (idx : Int) := by omega
                      have hil : (idx : Int) < (old.length : Int) := by omega
                      have hb2w : b2 < wj.heap.size := by omega
                      clear hidx HP HS HN
                      generalize (old.getD idx 0).toNat = x at *
                      go_wp2_with (at_builtin; refine wp_app _ rfl _ _ _ rfl elemU8 w.heap.size _ _ c2 _ rfl (HO2.out.alloc _) _ 1 1 [_] rfl rfl (Cells.newAt _ _ _ (by simp)) (by simp [Value.oneCell']) (by omega) (by unfold maxLen; omega) (by simp; omega) ?_; intro A3 c3 w4 hO4 hg4; have HO4 := Lib.hid hO4; clear hO4)
                      go_roundw
                      case rel => exact ⟨j + 1, A3, c3, by omega, by go_num, rfl, Lib.hid (by rw [HV.out]; exact HO4.out), (hg.alloc _).trans hg4⟩
                      case measure => simp [intOf]; omega
                    · obtain rfl : j = n := by omega
                      have hrl : (o ++ (old.drop f).take j).length = o.length + j := by rw [List.length_append, List.length_take, List.length_drop]; omega
                      by_cases h7 : 2048 < o.length + j
                      · have HR : Hid (playTo (dlt.step old) [] l = .error 11) := Lib.hid (by rw [← HP.out]; exact HN.out 11 (by rw [HST.out]; exact over_no (by omega)))
                        have h7' : (2048 : Int) < (o.length : Int) + (j : Int) := by omega
                        clear HS HN HO HP HO1 HO2 hrl
                        go_wp2
                        go_ret2
                        exact BytesRes.no HR.out (by repeat (first | (with_reducible exact Below.refl _ _) | (with_reducible assumption) | (with_reducible refine bset ?_ ?_ _) | (with_reducible refine balloc ?_ _) | (with_reducible refine Below.drew ?_) | (with_reducible refine bdrewN ?_ _) | (with_reducible refine bnext ?_ (by with_reducible assumption)) | exact Nat.le_refl _ | (simp; done) | omega | (simp; omega)))
                      · have HR : Hid (playTo (dlt.step old) (o ++ (old.drop f).take j) (l.drop (k + 1)) = playTo (dlt.step old) [] l) := Lib.hid (by rw [← HP.out]; exact (HS.out _ (by rw [HST.out]; exact over_ok (by omega))).symm)
                        have h7' : (o.length : Int) + (j : Int) ≤ 2048 := by omega
                        have HL2 := Lib.hid hrl
                        clear HS HN HO HP HO1 hrl
                        go_wp2
                        go_roundw
                        case rel => exact ⟨k + 1, o ++ (old.drop f).take j, A2, c2, by omega, by go_num, by rw [HL2.out], by rw [HL2.out]; omega, HR, by rw [HL2.out]; exact HO2, hbj⟩
                        case measure => simp [intOf]; omega
      | false =>
        by_cases h1 : fr = 0
        · by_cases h2 : ln = 0
          · obtain ⟨f, rfl⟩ : ∃ f : Nat, fr = f := ⟨0, h1⟩
            obtain ⟨n, rfl⟩ : ∃ n : Nat, ln = n := ⟨0, h2⟩
            have hf0 : (f : Int) ≤ 0 := by omega
            have hn0 : (n : Int) ≤ 0 := by omega
            have hfo : (f : Int) ≤ (old.length : Int) := by omega
            have hno : (n : Int) ≤ (old.length : Int) - (f : Int) := by omega
            have H1 := Lib.hid h1
            have H2 := Lib.hid h2
            clear h1 h2
            have hb1 : ((f : Int) == 0) = true := by rw [beq_iff_eq]; exact H1.out
            have hb2 : ((f : Int) != 0) = false := by rw [bne, hb1]; rfl
            have hb3' : ((n : Int) == 0) = true := by rw [beq_iff_eq]; exact H2.out
            have hb4 : ((n : Int) != 0) = false := by rw [bne, hb3']; rfl
            have HST : Hid (dlt.step old o ⟨false, f, n, dt⟩ = dlt.over (o ++ dt)) := Lib.hid (by unfold dlt.step; rw [if_neg (by simp), if_neg (by simp only [H1.out, H2.out]; simp)])
            have hrl : (o ++ dt).length = o.length + dt.length := by simp
            have HL2 := Lib.hid hrl
            have HM : Hid ((o ++ dt).map u8v = List.map u8v o ++ List.map u8v dt) := Lib.hid (by rw [List.map_append])
            by_cases h7 : 2048 < o.length + dt.length
            · have HR : Hid (playTo (dlt.step old) [] l = .error 11) := Lib.hid (by rw [← HP.out]; exact HN.out 11 (by rw [HST.out]; exact over_no (by omega)))
              have h7' : (2048 : Int) < (o.length : Int) + (dt.length : Int) := by omega
              clear HS HN HP hrl
              go_wp2_with (at_builtin; refine wp_app _ rfl _ _ _ rfl elemU8 w.heap.size _ _ c' _ rfl (HO.out.alloc _) _ dt.length c1 (List.map u8v dt) rfl (by simp) (by exact (HT.out.below ((Below.refl _ _).alloc hsz _)).cells_u8) (oneCell_u8 _) (by omega) (by unfold maxLen; omega) (by simp; omega) ?_; intro A3 c3 w4 hO4 hg4; have HO4 := Lib.hid hO4; clear hO4)
              go_ret2
              exact BytesRes.no HR.out (Grew.step (balloc hB _) hg4 (fun x hx => (HO.out.lt x hx).1))
            · have HR : Hid (playTo (dlt.step old) (o ++ dt) (l.drop (k + 1)) = playTo (dlt.step old) [] l) := Lib.hid (by rw [← HP.out]; exact (HS.out _ (by rw [HST.out]; exact over_ok (by omega))).symm)
              have h7' : (o.length : Int) + (dt.length : Int) ≤ 2048 := by omega
              clear HS HN HP hrl
              go_wp2_with (at_builtin; refine wp_app _ rfl _ _ _ rfl elemU8 w.heap.size _ _ c' _ rfl (HO.out.alloc _) _ dt.length c1 (List.map u8v dt) rfl (by simp) (by exact (HT.out.below ((Below.refl _ _).alloc hsz _)).cells_u8) (oneCell_u8 _) (by omega) (by unfold maxLen; omega) (by simp; omega) ?_; intro A3 c3 w4 hO4 hg4; have HO4 := Lib.hid hO4; clear hO4)
              go_roundw
              case rel => exact ⟨k + 1, o ++ dt, A3, c3, by omega, by go_num, by rw [HL2.out], by rw [HL2.out]; omega, HR, by rw [HL2.out, HM.out]; exact HO4, Grew.step (balloc hB _) hg4 (fun x hx => (HO.out.lt x hx).1)⟩
              case measure => simp [intOf]; omega
          · have HR : Hid (playTo (dlt.step old) [] l = .error 4) := Lib.hid (by rw [← HP.out]; exact HN.out 4 (by unfold dlt.step; rw [if_neg (by simp), if_pos (.inr h2)]))
            clear HS HN HO HP HT HD
            have hb1 : (ln == 0) = false := by rw [beq_eq_false_iff_ne]; exact h2
            have hb2 : (ln != 0) = true := by rw [bne, hb1]; rfl
            go_wp2
            go_ret2
            exact BytesRes.no HR.out (by repeat (first | (with_reducible exact Below.refl _ _) | (with_reducible assumption) | (with_reducible refine bset ?_ ?_ _) | (with_reducible refine balloc ?_ _) | (with_reducible refine Below.drew ?_) | (with_reducible refine bdrewN ?_ _) | (with_reducible refine bnext ?_ (by with_reducible assumption)) | exact Nat.le_refl _ | (simp; done) | omega | (simp; omega)))
        · have HR : Hid (playTo (dlt.step old) [] l = .error 4) := Lib.hid (by rw [← HP.out]; exact HN.out 4 (by unfold dlt.step; rw [if_neg (by simp), if_pos (.inl h1)]))
          clear HS HN HO HP HT HD
          have hb1 : (fr == 0) = false := by rw [beq_eq_false_iff_ne]; exact h1
          have hb2 : (fr != 0) = true := by rw [bne, hb1]; rfl
          go_wp2
          go_ret2
          exact BytesRes.no HR.out (by repeat (first | (with_reducible exact Below.refl _ _) | (with_reducible assumption) | (with_reducible refine bset ?_ ?_ _) | (with_reducible refine balloc ?_ _) | (with_reducible refine Below.drew ?_) | (with_reducible refine bdrewN ?_ _) | (with_reducible refine bnext ?_ (by with_reducible assumption)) | exact Nat.le_refl _ | (simp; done) | omega | (simp; omega)))
    · obtain rfl : k = l.length := by omega
      have HR : Hid (playTo (dlt.step old) [] l = .ok o) := Lib.hid (by rw [← HP.out]; exact play_end)
      clear HP HL
      have hsz := hB.size
      go_wp2
      go_ret2
      exact BytesRes.yes HR.out HO.out hB

set_option maxHeartbeats 400000 in
theorem delta_Patch_long (m c0 n c : Nat) (A0 A : Option Addr) (w : World) (hm : m ≤ 140737488351232) (hn2 : n ≤ 140737488351232) (hn : 2048 < m ∨ 2048 < n) :
    Calls Try.prog 18 #[.slice A0 m c0, .slice A n c] w fun e w' => e = .returned (.tuple #[.slice none 0 0, .int .i64 1]) ∧ w = w' := by
  by_cases h : 2048 < m
  · go_enter Try.func18, Try.ntmps18
    go_wp2
    go_ret2
    exact ⟨rfl, rfl⟩
  · have h' : m ≤ 2048 := by omega
    have h2 : 2048 < n := by omega
    go_enter Try.func18, Try.ntmps18
    go_wp2
    go_ret2
    exact ⟨rfl, rfl⟩
set_option maxHeartbeats 400000 in
theorem ref_Patch_long (m c0 n c : Nat) (A0 A : Option Addr) (w : World) (hm : m ≤ 140737488351232) (hn2 : n ≤ 140737488351232) (hn : 2048 < m ∨ 2048 < n) :
    Calls Try.prog 19 #[.slice A0 m c0, .slice A n c] w fun e w' => e = .returned (.tuple #[.slice none 0 0, .int .i64 1]) ∧ w = w' := by
  by_cases h : 2048 < m
  · go_enter Try.func19, Try.ntmps19
    go_wp2
    go_ret2
    exact ⟨rfl, rfl⟩
  · have h' : m ≤ 2048 := by omega
    have h2 : 2048 < n := by omega
    go_enter Try.func19, Try.ntmps19
    go_wp2
    go_ret2
    exact ⟨rfl, rfl⟩
theorem delta_Patch_res (old : List UInt8) (A0 : Option Addr) (c0 : Nat) (l : List Piece) (A : Option Addr) (c : Nat) (w : World) (hold : SlRep Rep.u8 w (· < w.heap.size) old A0 c0) (hl : SlRep Piece.rep w (· < w.heap.size) l A c) (hk : old.length ≤ 140737488351232) (hn : l.length ≤ 140737488351232) (hok : ∀ p, p ∈ l → p.data.length ≤ 140737488351232) :
    Calls Try.prog 18 #[.slice A0 old.length c0, .slice A l.length c] w (BytesRes (dlt.patch old l) w) := by
  by_cases h : 2048 < old.length ∨ 2048 < l.length
  · rw [show dlt.patch old l = .error 1 from if_pos h]
    exact (delta_Patch_long _ c0 _ c A0 A w hk hn h).mono fun e w' ⟨he, hw⟩ => by
      subst he; subst hw
      exact BytesRes.no rfl (Below.refl _ _)
  · rw [show dlt.patch old l = playTo (dlt.step old) [] l from if_neg h]
    exact delta_Patch_any old A0 c0 l A c w hold hl (by omega) (by omega) hok
theorem ref_Patch_res (old : List UInt8) (A0 : Option Addr) (c0 : Nat) (l : List Piece) (A : Option Addr) (c : Nat) (w : World) (hold : SlRep Rep.u8 w (· < w.heap.size) old A0 c0) (hl : SlRep Piece.rep w (· < w.heap.size) l A c) (hk : old.length ≤ 140737488351232) (hn : l.length ≤ 140737488351232) (hok : ∀ p, p ∈ l → p.data.length ≤ 140737488351232) :
    Calls Try.prog 19 #[.slice A0 old.length c0, .slice A l.length c] w (BytesRes (dlt.patch old l) w) := by
  by_cases h : 2048 < old.length ∨ 2048 < l.length
  · rw [show dlt.patch old l = .error 1 from if_pos h]
    exact (ref_Patch_long _ c0 _ c A0 A w hk hn h).mono fun e w' ⟨he, hw⟩ => by
      subst he; subst hw
      exact BytesRes.no rfl (Below.refl _ _)
  · rw [show dlt.patch old l = playTo (dlt.step old) [] l from if_neg h]
    exact ref_Patch_any old A0 c0 l A c w hold hl (by omega) (by omega) hok

set_option maxHeartbeats 400000 in
theorem lawDeltaPatches_walk {w : World} (old : List UInt8) (A0 : Option Addr) (c0 : Nat) (hold : SlRep Rep.u8 w (· < w.heap.size) old A0 c0) (hok0 : AllOk 1 AnyOk old) (l : List Piece) (A : Option Addr) (c : Nat) (hl : SlRep Piece.rep w (· < w.heap.size) l A c) (hok : AllOk 48 Piece.ok l) :
    Calls Try.prog 4 #[.slice A0 old.length c0, .slice A l.length c] w fun e w' => e = .returned (.bool true) ∧ Below w.heap.size w w' := by
  have hk : old.length ≤ 140737488351232 := by have := hok0.2; omega
  have hn : l.length ≤ 140737488351232 := by have := hok.2; omega
  have HQ : Hid (∀ p, p ∈ l → p.data.length ≤ 140737488351232) := Lib.hid fun p hp => by have := (hok.1 p hp).2.2.2; omega
  clear hok hok0
  have HL := Lib.hid hl
  have HD := Lib.hid hold
  clear hl hold
  go_enter Try.func4, Try.ntmps4
  go_wp2_with fail
  refine (delta_Patch_res old A0 c0 l A c w HD.out HL.out hk hn HQ.out).mono ?_
  rintro e w1 ⟨A1, c1, rfl, ho1, hb1⟩
  have HO1 := Lib.hid ho1
  clear ho1
  go_wp2_with fail
  refine (ref_Patch_res old A0 c0 l A c w1 (HD.out.next hb1) (HL.out.next hb1) hk hn HQ.out).mono ?_
  rintro e w2 ⟨A2, c2, rfl, ho2, hb2⟩
  have r2 := ho2.u8.2
  have r1 := (HO1.out.next hb2).u8.2
  have hm : (exL (dlt.patch old l)).length ≤ 9223372036854775807 := by have := ho2.cap; unfold maxLen at this; omega
  have R1 := Lib.hid r1
  have R2 := Lib.hid r2
  clear ho2 r1 r2
  generalize exL (dlt.patch old l) = o at *
  generalize exC (dlt.patch old l) = er at *
  go_wp2_with fail
  refine (law_sameBytes _ _ _ _ _ _ _ _ R1.out R2.out hm).mono ?_
  rintro e w3 ⟨rfl, hb3⟩
  go_wp2_with fail
  go_ret
  exact ⟨rfl, (by repeat (first | (with_reducible exact Below.refl _ _) | (with_reducible assumption) | (with_reducible refine bset ?_ ?_ _) | (with_reducible refine balloc ?_ _) | (with_reducible refine Below.drew ?_) | (with_reducible refine bdrewN ?_ _) | (with_reducible refine bnext ?_ (by with_reducible assumption)) | exact Nat.le_refl _ | (simp; done) | omega | (simp; omega)))⟩
end Go.Proofs.Ytedbidblnjajdaa
