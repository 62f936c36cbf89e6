/- slices: SortStableFunc at rows of rising ints of the call's own. No condition. -/
import Derived.Test.YtkbmpppendelcaaSort5
namespace Go.Proofs.Ytkbmpppendelcaa
open Go.RowKit
set_option linter.unusedSimpArgs false

/-- Y is D, sorted block by block -/
def so.Bl (key : Int → Int) (bs : Nat) (D Y : List Int) : Prop := Y.length = D.length ∧ ∀ k, so.Srt key ((Y.drop (k * bs)).take bs) ∧ ((Y.drop (k * bs)).take bs).Perm ((D.drop (k * bs)).take bs)
theorem so.Bl.nil {key : Int → Int} {bs : Nat} : so.Bl key bs [] [] := ⟨rfl, fun k => ⟨by simp, by simp⟩⟩
theorem so.Bl.one {key : Int → Int} {bs : Nat} {D M : List Int} (hs : so.Srt key M) (hp : M.Perm D) (hl : D.length ≤ bs) : so.Bl key bs D M := by
  have hml := hp.length_eq
  refine ⟨hml, fun k => ?_⟩
  by_cases hk : k = 0
  · subst hk
    rw [Nat.zero_mul, List.drop_zero, List.drop_zero, List.take_of_length_le (by omega), List.take_of_length_le hl]
    exact ⟨hs, hp⟩
  · have hkb : bs ≤ k * bs := Nat.le_mul_of_pos_left bs (by omega)
    rw [List.drop_eq_nil_of_le (by omega), List.drop_eq_nil_of_le (by omega)]
    exact ⟨by simp, by simp⟩
theorem so.Bl.append {key : Int → Int} {bs t : Nat} {D D2 Y Y2 : List Int} (h : so.Bl key bs D Y) (h2 : so.Bl key bs D2 Y2) (hl : D.length = t * bs) : so.Bl key bs (D ++ D2) (Y ++ Y2) := by
  refine ⟨by rw [List.length_append, List.length_append, h.1, h2.1], fun k => ?_⟩
  have hy : Y.length = t * bs := by rw [h.1, hl]
  by_cases hk : k < t
  · have hkb : k * bs + bs ≤ t * bs := by rw [← Nat.succ_mul]; exact Nat.mul_le_mul_right _ hk
    rw [List.drop_append_of_le_length (by omega), List.drop_append_of_le_length (by omega), List.take_append_of_le_length (by rw [List.length_drop]; omega), List.take_append_of_le_length (by rw [List.length_drop]; omega)]
    exact h.2 k
  · have hkb : t * bs ≤ k * bs := Nat.mul_le_mul_right _ (by omega)
    have e : k * bs - t * bs = (k - t) * bs := by rw [Nat.sub_mul]
    have y0 : Y.drop (k * bs) = [] := List.drop_eq_nil_of_le (by omega)
    have d0 : D.drop (k * bs) = [] := List.drop_eq_nil_of_le (by omega)
    rw [List.drop_append, List.drop_append, y0, d0, List.nil_append, List.nil_append, hy, hl, e]
    exact h2.2 (k - t)
theorem so.Bl.done {key : Int → Int} {bs : Nat} {D Y : List Int} (h : so.Bl key bs D Y) (hl : D.length ≤ bs) : so.Srt key Y ∧ Y.Perm D := by
  have h0 := h.2 0
  rw [Nat.zero_mul, List.drop_zero, List.drop_zero, List.take_of_length_le (by rw [h.1]; exact hl), List.take_of_length_le hl] at h0
  exact h0

set_option maxHeartbeats 400000 in
theorem so_insertion_nil (n c : Nat) (A : Option Addr) (a b : Int) (cv : Value) (w : World) (ha : 0 ≤ a ∧ a ≤ 1000) (h : b ≤ a + 1) :
    Calls Try.prog 53 #[.slice A n c, .int .i64 a, .int .i64 b, cv] w fun e w' => e = .returned (.tuple #[]) ∧ w = w' := by
  have hn : ¬ (a + 1 < b) := by omega
  go_enter Try.func53, Try.ntmps53
  go_wp2
  refine wp_loop_rounds 1 ?_
  rw [rounds_succ]
  go_wp2
  go_end0
  exact ⟨rfl, rfl⟩
set_option maxHeartbeats 400000 in
theorem so_stable_nil (c : Nat) (cv : Value) (w : World) :
    Calls Try.prog 40 #[.slice none 0 c, .int .i64 0, cv] w fun e w' => e = .returned (.tuple #[]) ∧ w = w' := by
  go_enter Try.func40, Try.ntmps40
  go_wp2
  refine wp_loop_rounds 1 ?_
  rw [rounds_succ]
  go_wp2_with (go_at_call 53; refine (so_insertion_nil _ _ _ _ _ _ _ (by omega) (by omega)).mono ?_; rintro e w' ⟨rfl, rfl⟩)
  refine wp_loop_rounds 1 ?_
  rw [rounds_succ]
  go_wp2
  go_end0
  exact ⟨rfl, rfl⟩

set_option maxRecDepth 100000 in
set_option maxHeartbeats 4000000 in
theorem so_stable (key : Int → Int) (Dom : Int → Prop) (D : List Int) (hD : D.Pairwise (· < ·)) (hdom : ∀ x ∈ D, Dom x) (B g n c Bx : Nat) (w : World) (h : OI w B g n c D) (hn : n ≤ 1000) (hc : CmpOk w g Bx key Dom) :
    Calls Try.prog 40 #[.slice (some ⟨g, 0, none⟩) n c, .int .i64 (n : Int), so.cv Bx] w (SortPost key w B g n c [] D []) := by
  have hlen := h.len
  have HD := Lib.hid hD
  have HDO := Lib.hid hdom
  have HC := Lib.hid hc
  have HO := Lib.hid h
  have HLN := Lib.hid hlen
  clear hD hdom hc h
  unfold so.cv
  go_enter Try.func40, Try.ntmps40
  go_upto_block 0 with fail
  go_cut [7, 8] (fun s7 s8 wx => ∃ (p q t : Nat) (F : List Int), s7 = .int .i64 (p : Int) ∧ s8 = .int .i64 (q : Int) ∧ p ≤ n ∧ n < q ∧ Hid (p = t * 20 ∧ (p + 20 ≤ q ∧ q ≤ p + 20) ∧ F.length = p ∧ so.Bl key 20 (D.take p) F ∧ OI wx B g n c (F ++ D.drop p) ∧ Stays w wx (fun q => q = g)))
  case first =>
    go_wp2
    go_loopw [7, 8] (fun s7 s8 wr => ∃ (p q t : Nat) (F : List Int), s7 = .int .i64 (p : Int) ∧ s8 = .int .i64 (q : Int) ∧ p ≤ n ∧ Hid (p = t * 20 ∧ (p + 20 ≤ q ∧ q ≤ p + 20) ∧ F.length = p ∧ so.Bl key 20 (D.take p) F ∧ OI wr B g n c (F ++ D.drop p) ∧ Stays w wr (fun q => q = g))) (fun s7 _ _ => ((n : Int) + 20 - intOf s7).toNat)
    case atStart => exact ⟨0, 20, 0, [], rfl, rfl, by omega, Lib.hid ⟨rfl, by omega, rfl, by simpa using so.Bl.nil, by simpa using HO.out, Stays.refl _ _⟩⟩
    case round =>
      obtain ⟨p, q, t, F, rfl, rfl, hp, HJ⟩ := hrel
      rename World => wr
      obtain ⟨hpt, hqp, hFl, hBl, hOI, hst⟩ := HJ.out
      by_cases hlt : q ≤ n
      · have hle : (q : Int) ≤ (n : Int) := by omega
        have hln := HLN.out
        have hdrop : D.drop p = (D.drop p).take 20 ++ D.drop q := by
          conv => lhs; rw [← List.take_append_drop 20 (D.drop p)]
          rw [List.drop_drop, show p + 20 = q by omega]
        have HIN := Lib.hid (so_insertion key Dom F ((D.drop p).take 20) (D.drop q) (xs := F ++ D.drop p) (by rw [List.append_assoc, ← hdrop]) ((HD.out.sublist (List.drop_sublist _ _)).sublist (List.take_sublist _ _)) (fun x hx => HDO.out x (List.mem_of_mem_drop (List.mem_of_mem_take hx))) (p : Int) (q : Int) (by omega) (by rw [List.length_take, List.length_drop]; omega) B g n c Bx wr hOI hn (HC.out.stays hst))
        have HNX : Hid (∀ q2 M wx, (q + 20 ≤ q2 ∧ q2 ≤ q + 20) → M.Perm ((D.drop p).take 20) → so.Srt key M → OI wx B g n c (F ++ M ++ D.drop q) → Stays wr wx (fun q => q = g) → Hid (q = (t + 1) * 20 ∧ (q + 20 ≤ q2 ∧ q2 ≤ q + 20) ∧ (F ++ M).length = q ∧ so.Bl key 20 (D.take q) (F ++ M) ∧ OI wx B g n c (F ++ M ++ D.drop q) ∧ Stays w wx (fun q => q = g))) := Lib.hid (fun q2 M wx hq2 hpm hs ho hs2 => Lib.hid ⟨by omega, hq2, by rw [List.length_append, hpm.length_eq, List.length_take, List.length_drop]; omega, by
          have e : D.take q = D.take p ++ (D.drop p).take 20 := by rw [show q = p + 20 by omega, List.take_add]
          rw [e]
          exact hBl.append (t := t) (so.Bl.one hs hpm (by rw [List.length_take]; omega)) (by rw [List.length_take]; omega), ho, hst.comp hs2⟩)
        clear HJ hpt hFl hBl hOI hst HD HDO HC HO hdrop hln
        have HQP := Lib.hid hqp
        clear hqp
        unfold so.cv at HIN
        go_wp2_with (go_at_call 53; refine HIN.out.mono ?_; rintro e w2 ⟨M, hpm, hsm, rfl, ho2, hs2⟩; have HE := Lib.hid (HNX.out (q + 20) M w2 (by omega) hpm hsm ho2 hs2); clear hpm hsm ho2 hs2)
        go_roundw
        case rel => exact ⟨q, q + 20, t + 1, F ++ M, rfl, by go_num, hlt, HE.out⟩
        case measure => have := HQP.out; simp [intOf]; omega
      · have hle : ¬ ((q : Int) ≤ (n : Int)) := by omega
        clear hpt hFl hBl hOI hst HD HDO HC HO
        have HQP := Lib.hid hqp
        clear hqp
        go_wp2
        go_meet
        exact ⟨p, q, t, F, rfl, rfl, hp, by omega, HJ⟩
  case rest =>
    obtain ⟨p, q, t, F, rfl, rfl, hp, hq, HJ⟩ := hcut
    rename World => w1
    obtain ⟨hpt, hqp, hFl, hBl, hOI, hst⟩ := HJ.out
    have HIN := Lib.hid (so_insertion key Dom F (D.drop p) [] (xs := F ++ D.drop p) (by simp) (HD.out.sublist (List.drop_sublist _ _)) (fun x hx => HDO.out x (List.mem_of_mem_drop hx)) (p : Int) (n : Int) (by omega) (by rw [List.length_drop]; omega) B g n c Bx w1 hOI hn (HC.out.stays hst))
    have HNX : Hid (∀ M wx, M.Perm (D.drop p) → so.Srt key M → OI wx B g n c (F ++ M ++ []) → Stays w1 wx (fun q => q = g) → ∃ Y, OI wx B g n c Y ∧ so.Bl key 20 D Y ∧ Stays w wx (fun q => q = g)) := Lib.hid (fun M wx hpm hs ho hs2 => ⟨F ++ M, by simpa using ho, by
      have h := hBl.append (t := t) (so.Bl.one hs hpm (by rw [List.length_drop]; omega)) (by rw [List.length_take]; omega)
      rwa [List.take_append_drop] at h, hst.comp hs2⟩)
    clear HJ hpt hFl hBl hOI hst hqp
    unfold so.cv at HIN
    go_upto_block 2 with (first
      | (go_at_call 53; refine HIN.out.mono ?_; rintro e w2 ⟨M, hpm, hsm, rfl, ho2, hs2⟩; obtain ⟨Y0, hy1, hy2, hy3⟩ := HNX.out M w2 hpm hsm ho2 hs2; have HY0 : Hid (OI w2 B g n c Y0 ∧ so.Bl key 20 D Y0 ∧ Stays w w2 (fun q => q = g)) := Lib.hid ⟨hy1, hy2, hy3⟩; clear hpm hsm ho2 hs2 hy1 hy2 hy3)
      | fail)
    clear HO
    go_wp2
    go_loopw [6] (fun s6 wr => ∃ (bs : Nat) (Y : List Int), s6 = .int .i64 (bs : Int) ∧ 20 ≤ bs ∧ bs ≤ 2000 ∧ Hid (OI wr B g n c Y ∧ so.Bl key bs D Y ∧ Stays w wr (fun q => q = g))) (fun s6 _ => ((n : Int) - intOf s6).toNat)
    case atStart => exact ⟨20, Y0, rfl, by omega, by omega, HY0⟩
    case round =>
      clear HY0
      obtain ⟨bs, Y, rfl, hb1, hb2, HY⟩ := hrel
      rename World => w3
      by_cases hlt : bs < n
      · have hlti : (bs : Int) < (n : Int) := by omega
        obtain ⟨b2, hbb⟩ : ∃ b2 : Nat, Hid (b2 = 2 * bs) := ⟨_, Lib.hid rfl⟩
        have ebb := hbb.out
        have e2 : 2 * (bs : Int) = (b2 : Int) := by omega
        have e2' : (bs : Int) * 2 = (b2 : Int) := by omega
        have hb22 : b2 ≤ 2000 := by omega
        have hb23 : bs < b2 := by omega
        have E2 := Lib.hid e2'
        -- one block of b2 out of two of bs
        have HBLK : Hid (∀ (p t : Nat) (F S : List Int) (wx : World) (m q : Int), p = t * b2 → p ≤ n → F.length = p → p + bs < n → m = (p + bs : Nat) → q = (F.length + ((Y.drop p).take bs).length + ((Y.drop (p + bs)).take bs).length : Nat) → OI wx B g n c (F ++ (Y.drop p).take bs ++ (Y.drop (p + bs)).take bs ++ S) → Stays w wx (fun q => q = g) →
            Calls Try.prog 54 #[.slice (some ⟨g, 0, none⟩) n c, .int .i64 (p : Int), .int .i64 m, .int .i64 q, so.cv Bx] wx (SortPost key wx B g n c F ((Y.drop p).take bs ++ (Y.drop (p + bs)).take bs) S) ∧ ((Y.drop p).take bs ++ (Y.drop (p + bs)).take bs).Perm ((D.drop p).take b2)) := Lib.hid (by
          intro p t F S wx m q hpt hpn hF hpb hm hq ho hst
          have hyl := HY.out.2.1.1
          have hln := HLN.out
          have k1 := HY.out.2.1.2 (2 * t)
          have k2 := HY.out.2.1.2 (2 * t + 1)
          have e3 : 2 * t * bs = p := by rw [hpt, ebb]; rw [Nat.mul_comm 2 t, Nat.mul_assoc]
          have e4 : (2 * t + 1) * bs = p + bs := by rw [Nat.add_mul, e3]; omega
          rw [e3] at k1
          rw [e4] at k2
          have hsub1 : ∀ x ∈ (Y.drop p).take bs, x ∈ (D.drop p).take bs := fun x hx => k1.2.mem_iff.1 hx
          have hsub2 : ∀ x ∈ (Y.drop (p + bs)).take bs, x ∈ (D.drop (p + bs)).take bs := fun x hx => k2.2.mem_iff.1 hx
          have hDD : (D.drop p).take b2 = (D.drop p).take bs ++ (D.drop (p + bs)).take bs := by
            rw [ebb, show 2 * bs = bs + bs by omega, List.take_add, List.drop_drop]
          refine ⟨so_symMerge key Dom B g n c Bx hn ((Y.drop p).take bs ++ (Y.drop (p + bs)).take bs).length F ((Y.drop p).take bs) ((Y.drop (p + bs)).take bs) S _ wx (p : Int) m q rfl k1.1 k2.1 (fun x hx y hy => ?_) (fun x hx => HDO.out x (List.mem_of_mem_drop (List.mem_of_mem_take (hsub1 x hx)))) (fun x hx => HDO.out x (List.mem_of_mem_drop (List.mem_of_mem_take (hsub2 x hx)))) (by rw [List.length_take, List.length_drop]; omega) (by rw [List.length_take, List.length_drop]; omega) (by rw [List.length_append]; omega) (by omega) (by rw [hm, List.length_take, List.length_drop]; congr 1; omega) hq ho (HC.out.stays hst), ?_⟩
          · have hp := HD.out.sublist (List.drop_sublist p D) |>.sublist (List.take_sublist b2 _)
            rw [hDD] at hp
            exact (List.pairwise_append.1 hp).2.2 x (hsub1 x hx) y (hsub2 y hy)
          · rw [hDD]; exact k1.2.append k2.2)
        clear ebb e2'
        go_upto_block 4 with fail
        go_cut [7, 8] (fun s7 s8 wx => ∃ (p q t : Nat) (F : List Int), s7 = .int .i64 (p : Int) ∧ s8 = .int .i64 (q : Int) ∧ p ≤ n ∧ n < q ∧ Hid (p = t * b2 ∧ (p + b2 ≤ q ∧ q ≤ p + b2) ∧ F.length = p ∧ so.Bl key b2 (D.take p) F ∧ OI wx B g n c (F ++ Y.drop p) ∧ Stays w wx (fun q => q = g)))
        case first =>
          go_wp2
          go_loopw [7, 8] (fun s7 s8 wx => ∃ (p q t : Nat) (F : List Int), s7 = .int .i64 (p : Int) ∧ s8 = .int .i64 (q : Int) ∧ p ≤ n ∧ Hid (p = t * b2 ∧ (p + b2 ≤ q ∧ q ≤ p + b2) ∧ F.length = p ∧ so.Bl key b2 (D.take p) F ∧ OI wx B g n c (F ++ Y.drop p) ∧ Stays w wx (fun q => q = g))) (fun s7 _ _ => ((n : Int) + 4000 - intOf s7).toNat)
          case atStart => have ebb := hbb.out; exact ⟨0, b2, 0, [], rfl, rfl, by omega, Lib.hid ⟨by simp, by omega, rfl, by simpa using so.Bl.nil, by simpa using HY.out.1, HY.out.2.2⟩⟩
          case round =>
            obtain ⟨p, q, t, F, rfl, rfl, hp, HJ⟩ := hrel
            rename World => wr
            obtain ⟨hpt, hqp, hFl, hBl, hOI, hst⟩ := HJ.out
            by_cases hq : q ≤ n
            · have ebb := hbb.out
              have hle : (q : Int) ≤ (n : Int) := by omega
              have hyl := HY.out.2.1.1
              have hln := HLN.out
              have hdrop : Y.drop p = (Y.drop p).take bs ++ ((Y.drop (p + bs)).take bs ++ Y.drop q) := by
                conv => lhs; rw [← List.take_append_drop bs (Y.drop p)]
                congr 1
                rw [List.drop_drop]
                conv => lhs; rw [← List.take_append_drop bs (Y.drop (p + bs))]
                rw [List.drop_drop, show p + bs + bs = q by omega]
              obtain ⟨hcall, hperm⟩ := HBLK.out p t F (Y.drop q) wr ((p : Int) + (bs : Int)) (q : Int) hpt hp hFl (by omega) (by omega) (by rw [List.length_take, List.length_take, List.length_drop, List.length_drop]; omega) (by rw [hdrop] at hOI; simpa only [List.append_assoc] using hOI) hst
              have HCA := Lib.hid hcall
              have HNX : Hid (∀ q2 M wx, (q + b2 ≤ q2 ∧ q2 ≤ q + b2) → M.Perm ((Y.drop p).take bs ++ (Y.drop (p + bs)).take bs) → so.Srt key M → OI wx B g n c (F ++ M ++ Y.drop q) → Stays wr wx (fun q => q = g) → Hid (q = (t + 1) * b2 ∧ (q + b2 ≤ q2 ∧ q2 ≤ q + b2) ∧ (F ++ M).length = q ∧ so.Bl key b2 (D.take q) (F ++ M) ∧ OI wx B g n c (F ++ M ++ Y.drop q) ∧ Stays w wx (fun q => q = g))) := Lib.hid (fun q2 M wx hq2 hpm hs ho hs2 => Lib.hid ⟨by rw [Nat.add_mul]; omega, hq2, by rw [List.length_append, (hpm.trans hperm).length_eq, List.length_take, List.length_drop]; omega, by
                have e : D.take q = D.take p ++ (D.drop p).take b2 := by rw [show q = p + b2 by omega, List.take_add]
                rw [e]
                exact hBl.append (t := t) (so.Bl.one hs (hpm.trans hperm) (by rw [List.length_take]; omega)) (by rw [List.length_take]; omega), ho, hst.comp hs2⟩)
              clear ebb HJ hpt hFl hBl hOI hst HD HDO HC hdrop hln hyl hcall hperm HBLK HY
              have HQP := Lib.hid hqp
              clear hqp
              unfold so.cv at HCA
              go_wp2_with (go_at_call 54; refine HCA.out.mono ?_; rintro e w2 ⟨M, hpm, hsm, rfl, ho2, hs2⟩; have HE := Lib.hid (HNX.out (q + b2) M w2 (by omega) hpm hsm ho2 hs2); clear hpm hsm ho2 hs2)
              go_roundw
              case rel => exact ⟨q, q + b2, t + 1, F ++ M, rfl, by go_num, hq, HE.out⟩
              case measure => have := HQP.out; simp [intOf]; omega
            · have hle : ¬ ((q : Int) ≤ (n : Int)) := by omega
              clear hpt hFl hBl hOI hst HD HDO HC HBLK HY
              have HQP := Lib.hid hqp
              clear hqp
              go_wp2
              go_meet
              exact ⟨p, q, t, F, rfl, rfl, hp, by omega, HJ⟩
        case rest =>
          obtain ⟨p, q, t, F, rfl, rfl, hp, hq, HJ⟩ := hcut
          rename World => w4
          obtain ⟨hpt, hqp, hFl, hBl, hOI, hst⟩ := HJ.out
          have ebb := hbb.out
          have hyl := HY.out.2.1.1
          have hln := HLN.out
          have HNX : Hid (∀ M wx, M.Perm (D.drop p) → so.Srt key M → OI wx B g n c (F ++ M) → Stays w4 wx (fun q => q = g) → Hid (OI wx B g n c (F ++ M) ∧ so.Bl key b2 D (F ++ M) ∧ Stays w wx (fun q => q = g))) := Lib.hid (fun M wx hpm hs ho hs2 => Lib.hid ⟨ho, by
            have h := hBl.append (t := t) (so.Bl.one hs hpm (by rw [List.length_drop]; omega)) (by rw [List.length_take]; omega)
            rwa [List.take_append_drop] at h, hst.comp hs2⟩)
          by_cases hm : p + bs < n
          · have hmi : (p : Int) + (bs : Int) < (n : Int) := by omega
            have hdrop : Y.drop p = (Y.drop p).take bs ++ ((Y.drop (p + bs)).take bs ++ []) := by
              conv => lhs; rw [← List.take_append_drop bs (Y.drop p)]
              rw [List.drop_drop, List.append_nil, List.take_of_length_le (l := Y.drop (p + bs)) (by rw [List.length_drop]; omega)]
            obtain ⟨hcall, hperm⟩ := HBLK.out p t F [] w4 ((p : Int) + (bs : Int)) (n : Int) hpt hp hFl hm (by omega) (by rw [List.length_take, List.length_take, List.length_drop, List.length_drop]; omega) (by rw [hdrop] at hOI; simpa only [List.append_assoc] using hOI) hst
            rw [List.take_of_length_le (l := D.drop p) (by rw [List.length_drop]; omega)] at hperm
            have HCA := Lib.hid hcall
            have HPE := Lib.hid hperm
            clear ebb HJ hpt hqp hFl hBl hOI hst HD HDO HC hdrop hln hyl hcall hperm HBLK HY
            unfold so.cv at HCA
            go_wp2_with (go_at_call 54; refine HCA.out.mono ?_; rintro e w5 ⟨M, hpm, hsm, rfl, ho2, hs2⟩; have HE := Lib.hid (HNX.out M w5 (hpm.trans HPE.out) hsm (by simpa using ho2) hs2); clear hpm hsm ho2 hs2)
            go_roundw
            case rel => exact ⟨b2, F ++ M, by rw [← E2.out], by omega, hb22, HE.out⟩
            case measure => have := hbb.out; simp [intOf]; omega
          · have hmi : ¬ ((p : Int) + (bs : Int) < (n : Int)) := by omega
            have k1 := HY.out.2.1.2 (2 * t)
            have e3 : 2 * t * bs = p := by rw [hpt, ebb]; rw [Nat.mul_comm 2 t, Nat.mul_assoc]
            rw [e3, List.take_of_length_le (l := Y.drop p) (by rw [List.length_drop]; omega), List.take_of_length_le (l := D.drop p) (by rw [List.length_drop]; omega)] at k1
            have HE := Lib.hid (HNX.out (Y.drop p) w4 k1.2 k1.1 hOI (Stays.refl _ _))
            clear ebb HJ hpt hqp hFl hBl hOI hst HD HDO HC hln hyl HBLK HY k1 e3 HNX
            go_wp2
            go_roundw
            case rel => exact ⟨b2, F ++ Y.drop p, by rw [← E2.out], by omega, hb22, HE.out⟩
            case measure => have := hbb.out; simp [intOf]; omega
      · have hlti : ¬ ((bs : Int) < (n : Int)) := by omega
        have HE : Hid (SortPost key w B g n c [] D [] (.returned (.tuple #[])) w3) := Lib.hid (by
          obtain ⟨h1, h2, h3⟩ := HY.out
          obtain ⟨h4, h5⟩ := h2.done (by have := HLN.out; omega)
          exact ⟨Y, h5, h4, rfl, by simpa using h1, h3⟩)
        clear HY HD HDO HC
        go_wp2
        go_end0
        exact HE.out

set_option maxHeartbeats 400000 in
theorem so_SortStable (key : Int → Int) (Dom : Int → Prop) (D : List Int) (hD : D.Pairwise (· < ·)) (hdom : ∀ x ∈ D, Dom x) (B g n c Bx : Nat) (w : World) (h : OI w B g n c D) (hn : n ≤ 1000) (hc : CmpOk w g Bx key Dom) :
    Calls Try.prog 35 #[.slice (some ⟨g, 0, none⟩) n c, so.cv Bx] w (SortPost key w B g n c [] D []) := by
  have H := Lib.hid (so_stable key Dom D hD hdom B g n c Bx w h hn hc)
  clear hD hdom h hc
  unfold so.cv at H ⊢
  go_enter Try.func35, Try.ntmps35
  go_wp2_with (go_at_call 40; refine H.out.mono ?_; rintro e w2 ⟨M, h1, h2, rfl, h3, h4⟩; have HE : Hid (SortPost key w B g n c [] D [] (.returned (.tuple #[])) w2) := Lib.hid ⟨M, h1, h2, rfl, h3, h4⟩; clear h1 h2 h3 h4)
  go_end0
  exact HE.out
set_option maxHeartbeats 400000 in
theorem so_SortStable_nil (c : Nat) (cv : Value) (w : World) :
    Calls Try.prog 35 #[.slice none 0 c, cv] w fun e w' => e = .returned (.tuple #[]) ∧ w = w' := by
  go_enter Try.func35, Try.ntmps35
  go_wp2_with (go_at_call 40; refine (so_stable_nil _ _ _).mono ?_; rintro e w2 ⟨rfl, rfl⟩)
  go_end0
  exact ⟨rfl, rfl⟩
end Go.Proofs.Ytkbmpppendelcaa
