/- Package delta: Patch. No condition. -/
import Derived.Test.YtedbidblnjajdaaDeltaP
import Derived.Test.YtedbidblnjajdaaSl
import Derived.IntWalk
namespace Go.Proofs.Ytedbidblnjajdaa
open Go.RowKit

theorem over_no {o : List UInt8} (h : 2048 < o.length) : dlt.over o = .error 11 := if_pos h
theorem over_ok {o : List UInt8} (h : o.length ≤ 2048) : dlt.over o = .ok o := if_neg (by omega)

set_option maxRecDepth 100000 in
set_option maxHeartbeats 4000000 in
theorem delta_Patch_any (old : List UInt8) (A0 : Option Addr) (c0 : Nat) (l : List Piece) (A : Option Addr) (c : Nat) (w : World) (hold : SlRep Rep.u8 w (· < w.heap.size) old A0 c0) (hl : SlRep Piece.rep w (· < w.heap.size) l A c) (ho : old.length ≤ 2048) (hn : l.length ≤ 2048) (hok : ∀ p, p ∈ l → p.data.length ≤ 140737488351232) :
    Calls Try.prog 18 #[.slice A0 old.length c0, .slice A l.length c] w (BytesRes (playTo (dlt.step old) [] l) w) := by
  have HL := Lib.hid hl
  have HD := Lib.hid hold
  have HK := Lib.hid hok
  clear hl hold hok
  go_enter Try.func18, Try.ntmps18
  go_wp2
  go_loopw [6, 19] (fun out i wr => ∃ (k : Nat) (o : List UInt8) (A' : Option Addr) (c' : Nat), k ≤ l.length ∧ i = .int .i64 k ∧ out = .slice A' o.length c' ∧ o.length ≤ 2048 ∧ Hid (playTo (dlt.step old) o (l.drop k) = playTo (dlt.step old) [] l) ∧ Hid (Own wr w.heap.size 5 1 A' o.length c' (o.map u8v)) ∧ Below w.heap.size w wr) (fun _ i _ => l.length - (intOf i).toNat)
  case atStart => exact ⟨0, [], none, 0, Nat.zero_le _, rfl, rfl, by simp, Lib.hid rfl, Lib.hid (Own.nil _ _ _ _), bself w⟩
  case round =>
    obtain ⟨k, o, A', c', hk, rfl, rfl, hol, HP, HO, hB⟩ := hrel
    by_cases hlt : k < l.length
    · obtain ⟨bb, oo, rfl, hbb, A1, c1, hc1, hc2, hc3, hc4, hdt⟩ := Piece.cells_at dlt.z (HL.out.below hB) hlt
      rename World => wo
      have hbw : bb < wo.heap.size := Nat.lt_of_lt_of_le hbb hB.size
      have hsz := hB.size
      have HS := Lib.hid (fun s' => play_ok (s := o) (s' := s') (step := dlt.step old) dlt.z hlt)
      have HN := Lib.hid (fun e => play_no (s := o) (e := e) (step := dlt.step old) dlt.z hlt)
      have hkd : (l.getD k dlt.z).data.length ≤ 140737488351232 := HK.out _ (by rw [List.getD_eq_getElem?_getD, List.getElem?_eq_getElem hlt]; exact List.getElem_mem _)
      clear HL HK
      generalize l.getD k dlt.z = t at *
      obtain ⟨cp, fr, ln, dt⟩ := t
      have HT := Lib.hid hdt
      clear hdt
      dsimp only at hc1 hc2 hc3 hc4 hkd
      cases cp with
      | true =>
        by_cases h1 : 0 < dt.length
        · have HR : Hid (playTo (dlt.step old) [] l = .error 4) := Lib.hid (by rw [← HP.out]; exact HN.out 4 (by unfold dlt.step; rw [if_pos rfl, if_pos h1]))
          clear HS HN HO HP HT HD
          go_wp2
          go_ret2
          exact BytesRes.no HR.out (by repeat (first | (with_reducible exact Below.refl _ _) | (with_reducible assumption) | (with_reducible refine bset ?_ ?_ _) | (with_reducible refine balloc ?_ _) | (with_reducible refine Below.drew ?_) | (with_reducible refine bdrewN ?_ _) | (with_reducible refine bnext ?_ (by with_reducible assumption)) | exact Nat.le_refl _ | (simp; done) | omega | (simp; omega)))
        · by_cases h2 : fr < 0
          · have HR : Hid (playTo (dlt.step old) [] l = .error 2) := Lib.hid (by rw [← HP.out]; exact HN.out 2 (by unfold dlt.step; rw [if_pos rfl, if_neg h1, if_pos (.inl h2)]))
            clear HS HN HO HP HT HD
            go_wp2
            go_ret2
            exact BytesRes.no HR.out (by repeat (first | (with_reducible exact Below.refl _ _) | (with_reducible assumption) | (with_reducible refine bset ?_ ?_ _) | (with_reducible refine balloc ?_ _) | (with_reducible refine Below.drew ?_) | (with_reducible refine bdrewN ?_ _) | (with_reducible refine bnext ?_ (by with_reducible assumption)) | exact Nat.le_refl _ | (simp; done) | omega | (simp; omega)))
          · have h2' : 0 ≤ fr := by omega
            by_cases h3 : ln < 0
            · have HR : Hid (playTo (dlt.step old) [] l = .error 2) := Lib.hid (by rw [← HP.out]; exact HN.out 2 (by unfold dlt.step; rw [if_pos rfl, if_neg h1, if_pos (.inr (.inl h3))]))
              clear HS HN HO HP HT HD
              go_wp2
              go_ret2
              exact BytesRes.no HR.out (by repeat (first | (with_reducible exact Below.refl _ _) | (with_reducible assumption) | (with_reducible refine bset ?_ ?_ _) | (with_reducible refine balloc ?_ _) | (with_reducible refine Below.drew ?_) | (with_reducible refine bdrewN ?_ _) | (with_reducible refine bnext ?_ (by with_reducible assumption)) | exact Nat.le_refl _ | (simp; done) | omega | (simp; omega)))
            · have h3' : 0 ≤ ln := by omega
              by_cases h4 : (old.length : Int) < fr
              · have HR : Hid (playTo (dlt.step old) [] l = .error 2) := Lib.hid (by rw [← HP.out]; exact HN.out 2 (by unfold dlt.step; rw [if_pos rfl, if_neg h1, if_pos (.inr (.inr (.inl h4)))]))
                clear HS HN HO HP HT HD
                go_wp2
                go_ret2
                exact BytesRes.no HR.out (by repeat (first | (with_reducible exact Below.refl _ _) | (with_reducible assumption) | (with_reducible refine bset ?_ ?_ _) | (with_reducible refine balloc ?_ _) | (with_reducible refine Below.drew ?_) | (with_reducible refine bdrewN ?_ _) | (with_reducible refine bnext ?_ (by with_reducible assumption)) | exact Nat.le_refl _ | (simp; done) | omega | (simp; omega)))
              · have h4' : fr ≤ (old.length : Int) := by omega
                by_cases h5 : (old.length : Int) - fr < ln
                · have HR : Hid (playTo (dlt.step old) [] l = .error 2) := Lib.hid (by rw [← HP.out]; exact HN.out 2 (by unfold dlt.step; rw [if_pos rfl, if_neg h1, if_pos (.inr (.inr (.inr h5)))]))
                  clear HS HN HO HP HT HD
                  go_wp2
                  go_ret2
                  exact BytesRes.no HR.out (by repeat (first | (with_reducible exact Below.refl _ _) | (with_reducible assumption) | (with_reducible refine bset ?_ ?_ _) | (with_reducible refine balloc ?_ _) | (with_reducible refine Below.drew ?_) | (with_reducible refine bdrewN ?_ _) | (with_reducible refine bnext ?_ (by with_reducible assumption)) | exact Nat.le_refl _ | (simp; done) | omega | (simp; omega)))
                · have h5' : ln ≤ (old.length : Int) - fr := by omega
                  obtain ⟨f, rfl⟩ : ∃ f : Nat, fr = f := ⟨fr.toNat, by omega⟩
                  obtain ⟨n, rfl⟩ : ∃ n : Nat, ln = n := ⟨ln.toNat, by omega⟩
                  obtain rfl : dt = [] := List.eq_nil_of_length_eq_zero (by omega)
                  simp only [List.length_nil] at hc4
                  have HCUT : Hid (SlRep Rep.u8 w (· < w.heap.size) ((old.drop f).take n) (cutA A0 c0 f 1) (c0 - f)) := Lib.hid (HD.out.cut (f := f) (n := n) (by omega))
                  have hcut := fun W => run_cut_lh (P := Try.prog) elemU8 A0 old.length c0 f n (by have := HD.out.1; omega) f ((f : Int) + n) rfl rfl W
                  have hwr : IntKind.i64.wrap ((f : Int) + n) = (f : Int) + n := IntWalk.i64_in _ (by omega)
                  have HCL : Hid (((old.drop f).take n).length = n) := Lib.hid (by rw [List.length_take, List.length_drop]; omega)
                  have HST : Hid (dlt.step old o ⟨true, f, n, ([] : List UInt8)⟩ = dlt.over ((o ++ (old.drop f).take n) ++ ([] : List UInt8))) := Lib.hid (by unfold dlt.step; rw [if_pos rfl, if_neg h1, if_neg (by unfold dlt.bad; dsimp only; omega), List.append_nil]; rfl)
                  generalize (old.drop f).take n = cut at *
                  generalize cutA A0 c0 f 1 = AC at *
                  obtain ⟨w3, hw3⟩ : ∃ w3, w3 = wo.alloc (.cells #[.bool true, .int .i64 f, .int .i64 n, .slice A1 0 c1] 87) := ⟨_, rfl⟩
                  have hx1 : w3.cell? ⟨wo.heap.size, 1, none⟩ = some (.int .i64 f) := by rw [hw3]; simp [go_sem]
                  have hx2 : w3.cell? ⟨wo.heap.size, 2, none⟩ = some (.int .i64 n) := by rw [hw3]; simp [go_sem]
                  have hx3 : w3.cell? ⟨wo.heap.size, 3, none⟩ = some (.slice A1 0 c1) := by rw [hw3]; simp [go_sem]
                  have hs3 : wo.heap.size < w3.heap.size := by rw [hw3]; simp
                  have HO1 : Hid (Own w3 w.heap.size 5 1 A' o.length c' (o.map u8v)) := Lib.hid (by rw [hw3]; exact HO.out.alloc _)
                  have hb3 : Below wo.heap.size wo w3 := by rw [hw3]; exact balloc (bself wo) _
                  go_wp2_with fail
                  rw [← hw3]
                  clear hw3 hc1 hc2 hc3 hc4
                  have hbw3 : Below w.heap.size w w3 := bnext hB hb3
                  have hcr : (cut.map u8v).length = n := by rw [List.length_map, HCL.out]
                  have HCR := Lib.hid hcr
                  have HT3 : Hid (SlRep Rep.u8 w3.drew (· < w.heap.size) ([] : List UInt8) A1 c1) := Lib.hid (HT.out.below (Below.drew (hb3.mono hsz)))
                  clear hcr
                  go_region_held3 (fun w' => w'.cell? ⟨wo.heap.size, 1, none⟩ = some (.int .i64 f) ∧ w'.cell? ⟨wo.heap.size, 2, none⟩ = some (.int .i64 n) ∧ w'.cell? ⟨wo.heap.size, 3, none⟩ = some (.slice A1 0 c1))
                    (first
                      | go_keep
                      | (go_split_ands
                         refine ⟨?_, ?_, ?_⟩ <;> (first
                           | (rw [hg4.cell _ (by first | exact hs3 | (simp; exact hs3)) (fun x hx => by have := (HO.out.lt x hx).2; omega)]; assumption)
                           | (rw [hg5.cell _ (by have := hg4.grown.size; simp at this ⊢; omega) (hg4.ne (fun x hx => by have := (HO.out.lt x hx).2; omega) (by first | exact hs3 | (simp; exact hs3)))]; assumption))))
                    (first
                      | (go_loud (refine step_app _ (by rfl) _ _ _ (by rfl) elemU8 w.heap.size A' _ c' _ (by rfl) HO1.out AC n _ (cut.map u8v) (by rfl) (by rw [HCR.out, Nat.mul_one]) (by exact (HCUT.out.below (by repeat (first | (with_reducible exact Below.refl _ _) | (with_reducible assumption) | (with_reducible refine bset ?_ ?_ _) | (with_reducible refine balloc ?_ _) | (with_reducible refine Below.drew ?_) | (with_reducible refine bdrewN ?_ _) | (with_reducible refine bnext ?_ (by with_reducible assumption)) | exact Nat.le_refl _ | (simp; done) | omega | (simp; omega)))).cells_u8) (oneCell_u8 _) (by omega) (by unfold maxLen; omega) (by first | exact hbw3.size | (simp; exact hbw3.size)) ?_; intro A4 c4 w4 hO4 hg4))
                      | (go_loud (refine step_app _ (by rfl) _ _ _ (by rfl) elemU8 w.heap.size A4 _ c4 _ (by rfl) hO4 A1 0 _ (List.map u8v ([] : List UInt8)) (by rfl) (by simp) (by exact (HT3.out.below (hg4.below hbw3.size (fun k hk => (HO.out.lt k hk).1))).cells_u8) (oneCell_u8 _) (by omega) (by unfold maxLen; omega) (by have := hg4.grown.size; simp at this ⊢; omega) ?_; intro A5 c5 w5 hO5 hg5)))
                  have hb5 : Below w.heap.size w w5 := Grew.step (Below.drew hbw3) (hg4.trans hg5) (fun x hx => (HO.out.lt x hx).1)
                  have hLen : ((o ++ cut) ++ ([] : List UInt8)).length = o.length + n + 0 := by simp [HCL.out] <;> omega
                  have HM : Hid (((o ++ cut) ++ ([] : List UInt8)).map u8v = List.map u8v o ++ List.map u8v cut ++ List.map u8v ([] : List UInt8)) := Lib.hid (by rw [List.map_append, List.map_append])
                  have HO5 := Lib.hid hO5
                  clear hO5 hO4 hg4 hg5 HO1 hcut hwr
                  by_cases h7 : 2048 < o.length + n + 0
                  · have HR : Hid (playTo (dlt.step old) [] l = .error 11) := Lib.hid (by rw [← HP.out]; exact HN.out 11 (by rw [HST.out]; exact over_no (by omega)))
                    have h7' : (2048 : Int) < (o.length : Int) + (n : Int) + (0 : Int) := by omega
                    clear HS HN HO HP hLen
                    go_wp2
                    go_ret2
                    exact BytesRes.no HR.out hb5
                  · have HR : Hid (playTo (dlt.step old) ((o ++ cut) ++ ([] : List UInt8)) (l.drop (k + 1)) = playTo (dlt.step old) [] l) := Lib.hid (by rw [← HP.out]; exact (HS.out _ (by rw [HST.out]; exact over_ok (by omega))).symm)
                    have h7' : (o.length : Int) + (n : Int) + (0 : Int) ≤ 2048 := by omega
                    have HL2 := Lib.hid hLen
                    clear HS HN HO HP hLen
                    go_wp2
                    go_roundw
                    case rel => exact ⟨k + 1, (o ++ cut) ++ ([] : List UInt8), A5, c5, by omega, by go_num, by rw [HL2.out]; first | done | rfl, by rw [HL2.out]; omega, HR, by rw [HL2.out, HM.out]; exact HO5, hb5⟩
                    case measure => simp [intOf]; omega
      | false =>
        by_cases h1 : fr = 0
        · by_cases h2 : ln = 0
          · obtain ⟨f, rfl⟩ : ∃ f : Nat, fr = f := ⟨0, h1⟩
            obtain ⟨n, rfl⟩ : ∃ n : Nat, ln = n := ⟨0, h2⟩
            have hf0 : (f : Int) ≤ 0 := by omega
            have hn0 : (n : Int) ≤ 0 := by omega
            have hfo : (f : Int) ≤ (old.length : Int) := by omega
            have hno : (n : Int) ≤ (old.length : Int) - (f : Int) := by omega
            have H1 := Lib.hid h1
            have H2 := Lib.hid h2
            clear h1 h2
            have hb1 : ((f : Int) == 0) = true := by rw [beq_iff_eq]; exact H1.out
            have hb2 : ((f : Int) != 0) = false := by rw [bne, hb1]; rfl
            have hb3' : ((n : Int) == 0) = true := by rw [beq_iff_eq]; exact H2.out
            have hb4 : ((n : Int) != 0) = false := by rw [bne, hb3']; rfl
            have HCUT : Hid (SlRep Rep.u8 w (· < w.heap.size) ((old.drop f).take n) (cutA A0 c0 f 1) (c0 - f)) := Lib.hid (HD.out.cut (f := f) (n := n) (by omega))
            have hcut := fun W => run_cut_lh (P := Try.prog) elemU8 A0 old.length c0 f n (by have := HD.out.1; omega) f ((f : Int) + n) rfl rfl W
            have hwr : IntKind.i64.wrap ((f : Int) + n) = (f : Int) + n := IntWalk.i64_in _ (by omega)
            have HCL : Hid (((old.drop f).take n).length = n) := Lib.hid (by rw [List.length_take, List.length_drop]; omega)
            have HST : Hid (dlt.step old o ⟨false, f, n, dt⟩ = dlt.over ((o ++ (old.drop f).take n) ++ dt)) := Lib.hid (by unfold dlt.step; rw [if_neg (by simp), if_neg (by simp only [H1.out, H2.out]; simp)]; rw [show (old.drop f).take n = [] from (by rw [show n = 0 by omega]; rfl), List.append_nil])
            generalize (old.drop f).take n = cut at *
            generalize cutA A0 c0 f 1 = AC at *
            obtain ⟨w3, hw3⟩ : ∃ w3, w3 = wo.alloc (.cells #[.bool false, .int .i64 f, .int .i64 n, .slice A1 dt.length c1] 87) := ⟨_, rfl⟩
            have hx1 : w3.cell? ⟨wo.heap.size, 1, none⟩ = some (.int .i64 f) := by rw [hw3]; simp [go_sem]
            have hx2 : w3.cell? ⟨wo.heap.size, 2, none⟩ = some (.int .i64 n) := by rw [hw3]; simp [go_sem]
            have hx3 : w3.cell? ⟨wo.heap.size, 3, none⟩ = some (.slice A1 dt.length c1) := by rw [hw3]; simp [go_sem]
            have hs3 : wo.heap.size < w3.heap.size := by rw [hw3]; simp
            have HO1 : Hid (Own w3 w.heap.size 5 1 A' o.length c' (o.map u8v)) := Lib.hid (by rw [hw3]; exact HO.out.alloc _)
            have hb3 : Below wo.heap.size wo w3 := by rw [hw3]; exact balloc (bself wo) _
            go_wp2_with fail
            rw [← hw3]
            clear hw3 hc1 hc2 hc3 hc4
            have hbw3 : Below w.heap.size w w3 := bnext hB hb3
            have hcr : (cut.map u8v).length = n := by rw [List.length_map, HCL.out]
            have HCR := Lib.hid hcr
            have HT3 : Hid (SlRep Rep.u8 w3.drew (· < w.heap.size) dt A1 c1) := Lib.hid (HT.out.below (Below.drew (hb3.mono hsz)))
            clear hcr
            go_region_held3 (fun w' => w'.cell? ⟨wo.heap.size, 1, none⟩ = some (.int .i64 f) ∧ w'.cell? ⟨wo.heap.size, 2, none⟩ = some (.int .i64 n) ∧ w'.cell? ⟨wo.heap.size, 3, none⟩ = some (.slice A1 dt.length c1))
              (first
                | go_keep
                | (go_split_ands
                   refine ⟨?_, ?_, ?_⟩ <;> (first
                     | (rw [hg4.cell _ (by first | exact hs3 | (simp; exact hs3)) (fun x hx => by have := (HO.out.lt x hx).2; omega)]; assumption)
                     | (rw [hg5.cell _ (by have := hg4.grown.size; simp at this ⊢; omega) (hg4.ne (fun x hx => by have := (HO.out.lt x hx).2; omega) (by first | exact hs3 | (simp; exact hs3)))]; assumption))))
              (first
                | (go_loud (refine step_app _ (by rfl) _ _ _ (by rfl) elemU8 w.heap.size A' _ c' _ (by rfl) HO1.out AC n _ (cut.map u8v) (by rfl) (by rw [HCR.out, Nat.mul_one]) (by exact (HCUT.out.below (by repeat (first | (with_reducible exact Below.refl _ _) | (with_reducible assumption) | (with_reducible refine bset ?_ ?_ _) | (with_reducible refine balloc ?_ _) | (with_reducible refine Below.drew ?_) | (with_reducible refine bdrewN ?_ _) | (with_reducible refine bnext ?_ (by with_reducible assumption)) | exact Nat.le_refl _ | (simp; done) | omega | (simp; omega)))).cells_u8) (oneCell_u8 _) (by omega) (by unfold maxLen; omega) (by first | exact hbw3.size | (simp; exact hbw3.size)) ?_; intro A4 c4 w4 hO4 hg4))
                | (go_loud (refine step_app _ (by rfl) _ _ _ (by rfl) elemU8 w.heap.size A4 _ c4 _ (by rfl) hO4 A1 dt.length _ (List.map u8v dt) (by rfl) (by simp) (by exact (HT3.out.below (hg4.below hbw3.size (fun k hk => (HO.out.lt k hk).1))).cells_u8) (oneCell_u8 _) (by omega) (by unfold maxLen; omega) (by have := hg4.grown.size; simp at this ⊢; omega) ?_; intro A5 c5 w5 hO5 hg5)))
            have hb5 : Below w.heap.size w w5 := Grew.step (Below.drew hbw3) (hg4.trans hg5) (fun x hx => (HO.out.lt x hx).1)
            have hLen : ((o ++ cut) ++ dt).length = o.length + n + dt.length := by simp [HCL.out] <;> omega
            have HM : Hid (((o ++ cut) ++ dt).map u8v = List.map u8v o ++ List.map u8v cut ++ List.map u8v dt) := Lib.hid (by rw [List.map_append, List.map_append])
            have HO5 := Lib.hid hO5
            clear hO5 hO4 hg4 hg5 HO1 hcut hwr
            by_cases h7 : 2048 < o.length + n + dt.length
            · have HR : Hid (playTo (dlt.step old) [] l = .error 11) := Lib.hid (by rw [← HP.out]; exact HN.out 11 (by rw [HST.out]; exact over_no (by omega)))
              have h7' : (2048 : Int) < (o.length : Int) + (n : Int) + (dt.length : Int) := by omega
              clear HS HN HO HP hLen
              go_wp2
              go_ret2
              exact BytesRes.no HR.out hb5
            · have HR : Hid (playTo (dlt.step old) ((o ++ cut) ++ dt) (l.drop (k + 1)) = playTo (dlt.step old) [] l) := Lib.hid (by rw [← HP.out]; exact (HS.out _ (by rw [HST.out]; exact over_ok (by omega))).symm)
              have h7' : (o.length : Int) + (n : Int) + (dt.length : Int) ≤ 2048 := by omega
              have HL2 := Lib.hid hLen
              clear HS HN HO HP hLen
              go_wp2
              go_roundw
              case rel => exact ⟨k + 1, (o ++ cut) ++ dt, A5, c5, by omega, by go_num, by rw [HL2.out]; first | done | rfl, by rw [HL2.out]; omega, HR, by rw [HL2.out, HM.out]; exact HO5, hb5⟩
              case measure => simp [intOf]; omega
          · have HR : Hid (playTo (dlt.step old) [] l = .error 4) := Lib.hid (by rw [← HP.out]; exact HN.out 4 (by unfold dlt.step; rw [if_neg (by simp), if_pos (.inr h2)]))
            clear HS HN HO HP HT HD
            have hb1 : (ln == 0) = false := by rw [beq_eq_false_iff_ne]; exact h2
            have hb2 : (ln != 0) = true := by rw [bne, hb1]; rfl
            go_wp2
            go_ret2
            exact BytesRes.no HR.out (by repeat (first | (with_reducible exact Below.refl _ _) | (with_reducible assumption) | (with_reducible refine bset ?_ ?_ _) | (with_reducible refine balloc ?_ _) | (with_reducible refine Below.drew ?_) | (with_reducible refine bdrewN ?_ _) | (with_reducible refine bnext ?_ (by with_reducible assumption)) | exact Nat.le_refl _ | (simp; done) | omega | (simp; omega)))
        · have HR : Hid (playTo (dlt.step old) [] l = .error 4) := Lib.hid (by rw [← HP.out]; exact HN.out 4 (by unfold dlt.step; rw [if_neg (by simp), if_pos (.inl h1)]))
          clear HS HN HO HP HT HD
          have hb1 : (fr == 0) = false := by rw [beq_eq_false_iff_ne]; exact h1
          have hb2 : (fr != 0) = true := by rw [bne, hb1]; rfl
          go_wp2
          go_ret2
          exact BytesRes.no HR.out (by repeat (first | (with_reducible exact Below.refl _ _) | (with_reducible assumption) | (with_reducible refine bset ?_ ?_ _) | (with_reducible refine balloc ?_ _) | (with_reducible refine Below.drew ?_) | (with_reducible refine bdrewN ?_ _) | (with_reducible refine bnext ?_ (by with_reducible assumption)) | exact Nat.le_refl _ | (simp; done) | omega | (simp; omega)))
    · obtain rfl : k = l.length := by omega
      have HR : Hid (playTo (dlt.step old) [] l = .ok o) := Lib.hid (by rw [← HP.out]; exact play_end)
      clear HP HL
      have hsz := hB.size
      go_wp2_with (go_at_call 47; refine (clone_u8 o.length A' c' _ _ (by simp) (fun w' hb => (HO.out.next hb).cells) (by exact oneCell_u8 o) (by omega)).mono ?_; rintro e w2 ⟨A2, c2, rfl, ho2, hb2⟩)
      go_ret2
      exact BytesRes.yes HR.out (ho2.base_le hsz) (bnext hB hb2)
end Go.Proofs.Ytedbidblnjajdaa
