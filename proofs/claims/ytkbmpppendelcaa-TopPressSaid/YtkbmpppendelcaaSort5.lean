/- slices: symMerge. No condition. -/
import Derived.Test.YtkbmpppendelcaaSort4
import Derived.Deep.CutBlock
namespace Go.Proofs.Ytkbmpppendelcaa
open Go.RowKit
set_option linter.unusedSimpArgs false

/-- symMerge does its work at up to k elements -/
def SymOk (key : Int → Int) (Dom : Int → Prop) (B g n c Bx k : Nat) : Prop :=
  ∀ (P L R S xs : List Int) (w : World) (a m b : Int), xs = P ++ L ++ R ++ S → so.Srt key L → so.Srt key R → (∀ x ∈ L, ∀ y ∈ R, x < y) → (∀ x ∈ L, Dom x) → (∀ x ∈ R, Dom x) → 0 < L.length → 0 < R.length → L.length + R.length ≤ k →
    a = P.length → m = (P.length + L.length : Nat) → b = (P.length + L.length + R.length : Nat) → OI w B g n c xs → CmpOk w g Bx key Dom →
    Calls Try.prog 54 #[.slice (some ⟨g, 0, none⟩) n c, .int .i64 a, .int .i64 m, .int .i64 b, so.cv Bx] w (SortPost key w B g n c P (L ++ R) S)
/-- where the two sides are cut -/
structure so.Cut (L R : List Int) (na nm nb mid lo hi : Nat) : Prop where
  l : nm = na + L.length
  r : nb = nm + R.length
  l2 : 1 < L.length
  r2 : 1 < R.length
  half : 2 * mid ≤ na + nb ∧ na + nb ≤ 2 * mid + 1
  ends : mid < nm ∧ lo = mid + nm - nb ∧ hi = mid ∨ nm ≤ mid ∧ lo = na ∧ hi = nm
theorem so.cut_pred_mono {key : Int → Int} {L R : List Int} {na nm nb mid lo hi : Nat} (h : so.Cut L R na nm nb mid lo hi) (hL : so.Srt key L) (hR : so.Srt key R) {c d : Nat} (hlo : lo ≤ c) (hcd : c < d) (hd : d < hi) :
    key (L.getD (c - na) 0) ≤ key (L.getD (d - na) 0) ∧ key (R.getD (mid + nm - 1 - d - nm) 0) ≤ key (R.getD (mid + nm - 1 - c - nm) 0) := by
  obtain ⟨h1, h2, h3, h4, h5, h6⟩ := h
  exact ⟨(hL.at (i := c - na) (j := d - na) (by omega) (by omega)).le, (hR.at (i := mid + nm - 1 - d - nm) (j := mid + nm - 1 - c - nm) (by omega) (by omega)).le⟩
theorem so.cut_done {key : Int → Int} {L R : List Int} {na nm nb mid lo hi s : Nat} (h : so.Cut L R na nm nb mid lo hi) (hL : so.Srt key L) (hR : so.Srt key R) (hLR : ∀ x ∈ L, ∀ y ∈ R, x < y) (hs : lo ≤ s ∧ s ≤ hi)
    (hno : ∀ c, lo ≤ c → c < s → ¬ key (R.getD (mid + nm - 1 - c - nm) 0) < key (L.getD (c - na) 0)) (hyes : ∀ c, s ≤ c → c < hi → key (R.getD (mid + nm - 1 - c - nm) 0) < key (L.getD (c - na) 0)) :
    (∀ x ∈ L.take (s - na), ∀ y ∈ R.drop (mid + nm - s - nm), so.lx key x y) ∧ ∀ x ∈ R.take (mid + nm - s - nm), ∀ y ∈ L.drop (s - na), so.lx key x y := by
  obtain ⟨h1, h2, h3, h4, h5, h6⟩ := h
  refine ⟨fun x hx y hy => ?_, fun x hx y hy => ?_⟩
  · obtain ⟨i, i1, i2, ei⟩ := so.mem_take_at hx
    obtain ⟨j, j1, j2, ej⟩ := so.mem_drop_at hy
    refine so.lx.of_le ?_ (hLR x (List.mem_of_mem_take hx) y (List.mem_of_mem_drop hy))
    have hl : lo < s := by omega
    have h7 := hno (s - 1) (by omega) (by omega)
    rw [show mid + nm - 1 - (s - 1) - nm = mid + nm - s - nm by omega] at h7
    have e1 : key x ≤ key (L.getD (s - 1 - na) 0) := by
      by_cases hi' : i = s - 1 - na
      · rw [← ei, hi']; exact Int.le_refl _
      · rw [← ei]; exact (hL.at (i := i) (j := s - 1 - na) (by omega) (by omega)).le
    have e2 : key (R.getD (mid + nm - s - nm) 0) ≤ key y := by
      by_cases hj' : j = mid + nm - s - nm
      · rw [← ej, hj']; exact Int.le_refl _
      · rw [← ej]; exact (hR.at (i := mid + nm - s - nm) (j := j) (by omega) (by omega)).le
    omega
  · obtain ⟨i, i1, i2, ei⟩ := so.mem_take_at hx
    obtain ⟨j, j1, j2, ej⟩ := so.mem_drop_at hy
    have h7 := hyes s (Nat.le_refl _) (by omega)
    have e1 : key x ≤ key (R.getD (mid + nm - 1 - s - nm) 0) := by
      by_cases hi' : i = mid + nm - 1 - s - nm
      · rw [← ei, hi']; exact Int.le_refl _
      · rw [← ei]; exact (hR.at (i := i) (j := mid + nm - 1 - s - nm) (by omega) (by omega)).le
    have e2 : key (L.getD (s - na) 0) ≤ key y := by
      by_cases hj' : j = s - na
      · rw [← ej, hj']; exact Int.le_refl _
      · rw [← ej]; exact (hL.at (i := s - na) (j := j) (by omega) (by omega)).le
    exact so.lx.of_lt (by omega)

set_option maxRecDepth 100000 in
set_option maxHeartbeats 4000000 in
theorem so_sym_gen (key : Int → Int) (Dom : Int → Prop) (B g n c Bx k : Nat) (hn : n ≤ 1000) (IH : SymOk key Dom B g n c Bx k) (P L R S xs : List Int) (w : World) (a m b : Int) (hxs : xs = P ++ L ++ R ++ S) (hL : so.Srt key L) (hR : so.Srt key R) (hLR : ∀ x ∈ L, ∀ y ∈ R, x < y) (hdl : ∀ x ∈ L, Dom x) (hdr : ∀ x ∈ R, Dom x) (hl0 : 1 < L.length) (hr0 : 1 < R.length) (hk : L.length + R.length ≤ k + 1)
    (ha : a = P.length) (hm : m = (P.length + L.length : Nat)) (hb : b = (P.length + L.length + R.length : Nat)) (h : OI w B g n c xs) (hc : CmpOk w g Bx key Dom) :
    Calls Try.prog 54 #[.slice (some ⟨g, 0, none⟩) n c, .int .i64 a, .int .i64 m, .int .i64 b, so.cv Bx] w (SortPost key w B g n c P (L ++ R) S) := by
  have hlen := h.len
  rw [hxs] at h hlen
  simp only [List.length_append] at hlen
  obtain ⟨na, hna⟩ : ∃ na : Nat, Hid (na = P.length) := ⟨_, Lib.hid rfl⟩
  obtain ⟨nm, hnm⟩ : ∃ nm : Nat, Hid (nm = na + L.length) := ⟨_, Lib.hid rfl⟩
  obtain ⟨nb, hnb⟩ : ∃ nb : Nat, Hid (nb = nm + R.length) := ⟨_, Lib.hid rfl⟩
  obtain ⟨md, hmd⟩ : ∃ md : Nat, Hid (md = (na + nb) / 2) := ⟨_, Lib.hid rfl⟩
  have ena := hna.out
  have enm := hnm.out
  have enb := hnb.out
  have emd := hmd.out
  obtain rfl : a = (na : Int) := by omega
  obtain rfl : m = (nm : Int) := by omega
  obtain rfl : b = (nb : Int) := by omega
  obtain ⟨lo, hi, hcut⟩ : ∃ lo hi, so.Cut L R na nm nb md lo hi := by
    by_cases hmm : md < nm
    · exact ⟨md + nm - nb, md, enm, enb, hl0, hr0, by omega, .inl ⟨hmm, rfl, rfl⟩⟩
    · exact ⟨na, nm, enm, enb, hl0, hr0, by omega, .inr ⟨by omega, rfl, rfl⟩⟩
  have HCUT := Lib.hid hcut
  have HL := Lib.hid hL
  have HR := Lib.hid hR
  have HLR := Lib.hid hLR
  have HDL := Lib.hid hdl
  have HDR := Lib.hid hdr
  have HC := Lib.hid hc
  have HIH := Lib.hid IH
  have HO := Lib.hid h
  have HKK := Lib.hid hk
  have hbn : nb ≤ n := by omega
  have hd1 : ¬ ((nm : Int) - (na : Int) = 1) := by omega
  have hd1' : ((nm : Int) - (na : Int) == 1) = false := by simp; omega
  have hd2 : ¬ ((nb : Int) - (nm : Int) = 1) := by omega
  have hd2' : ((nb : Int) - (nm : Int) == 1) = false := by simp; omega
  have ham : na + 1 < nm := by omega
  have hmb : nm + 1 < nb := by omega
  have hme : ((na : Int) + (nb : Int)) / 2 = (md : Int) := by omega
  have hmd1 : na < md ∧ md < nb := by omega
  have hlohi : na ≤ lo ∧ lo ≤ hi ∧ hi ≤ nm ∧ hi ≤ md ∧ md + nm - nb ≤ lo ∧ md + nm ≤ nb + lo := by
    obtain ⟨h1, h2, h3, h4, h5, h6⟩ := hcut
    omega
  have hends := hcut.ends
  have HEN0 := Lib.hid hends
  clear hxs ha hm hb h hL hR hLR hdl hdr hc hlen ena enm enb emd hcut IH hk hends
  unfold so.cv
  go_enter Try.func54, Try.ntmps54
  go_upto_if 140 with (fail)
  go_cut [20, 21] (fun s20 s21 wx => s20 = .int .i64 (lo : Int) ∧ s21 = .int .i64 (hi : Int) ∧ w = wx)
  case first =>
    as_aux_lemma =>
      rcases HEN0.out with ⟨h1, h2, h3⟩ | ⟨h1, h2, h3⟩
      · have hlo : (md : Int) + (nm : Int) - (nb : Int) = (lo : Int) := by omega
        have hgt : (md : Int) < (nm : Int) := by omega
        have H3 := Lib.hid h3
        clear h2 h3 HEN0
        go_wp2
        go_meet
        exact ⟨rfl, by rw [H3.out], rfl⟩
      · have hgt : ¬ ((md : Int) < (nm : Int)) := by omega
        have H2 := Lib.hid h2
        have H3 := Lib.hid h3
        clear h2 h3 HEN0
        go_wp2
        go_meet
        exact ⟨by rw [H2.out], by rw [H3.out], rfl⟩
  case rest =>
    obtain ⟨rfl, rfl, rfl⟩ := hcut
    clear HEN0
    have HP : Hid (∀ c, lo ≤ c → c < hi → c - na < L.length ∧ md + nm - 1 - c - nm < R.length ∧ nm ≤ md + nm - 1 - c ∧ na ≤ c ∧ md + nm - 1 - c < n) := Lib.hid (fun c h1 h2 => by
      obtain ⟨q1, q2, q3, q4, q5, q6⟩ := HCUT.out
      omega)
    go_upto_block 8 with fail
    go_cut [20] (fun s20 wx => ∃ s : Nat, s20 = .int .i64 (s : Int) ∧ lo ≤ s ∧ s ≤ hi ∧ Hid (Below w.heap.size w wx) ∧ Hid ((∀ x ∈ L.take (s - na), ∀ y ∈ R.drop (md + nm - s - nm), so.lx key x y) ∧ ∀ x ∈ R.take (md + nm - s - nm), ∀ y ∈ L.drop (s - na), so.lx key x y))
    case first =>
      go_wp2
      go_loopw [20, 21] (fun iv jv wr => ∃ i j : Nat, iv = .int .i64 (i : Int) ∧ jv = .int .i64 (j : Int) ∧ lo ≤ i ∧ i ≤ j ∧ j ≤ hi ∧ Hid (Below w.heap.size w wr) ∧ Hid ((∀ c, lo ≤ c → c < i → ¬ key (R.getD (md + nm - 1 - c - nm) 0) < key (L.getD (c - na) 0)) ∧ ∀ c, j ≤ c → c < hi → key (R.getD (md + nm - 1 - c - nm) 0) < key (L.getD (c - na) 0))) (fun i j _ => (intOf j - intOf i).toNat)
      case atStart => exact ⟨lo, hi, rfl, rfl, Nat.le_refl _, by omega, Nat.le_refl _, Lib.hid (bself w), Lib.hid ⟨fun c h1 h2 => by omega, fun c h1 h2 => by omega⟩⟩
      case round =>
        as_aux_lemma =>
          obtain ⟨i, j, rfl, rfl, hi1, hij, hj, HBW, HJ⟩ := hrel
          rename World => wr
          by_cases hlt : i < j
          · obtain ⟨q, hq⟩ : ∃ q : Nat, Hid (q = (i + j) / 2) := ⟨_, Lib.hid rfl⟩
            have hq1 : i ≤ q ∧ q < j := by have := hq.out; omega
            have hqe : ((i : Int) + (j : Int)) / 2 = (q : Int) := by have := hq.out; omega
            obtain ⟨p1, p2, p3, p4, p5⟩ := HP.out q (by omega) (by omega)
            obtain ⟨d, hd⟩ : ∃ d : Nat, Hid (d = md + nm - 1 - q) := ⟨_, Lib.hid rfl⟩
            have ed := hd.out
            have hde : (md : Int) + (nm : Int) - 1 - (q : Int) = (d : Int) := by omega
            have HOW : Hid (OI wr B g n c (P ++ L ++ R ++ S)) := Lib.hid (HO.out.stays (Stays.of_below HBW.out (fun _ => False)) id)
            have c1 : wr.cell? ⟨g, q, none⟩ = some (.int .i64 (L.getD (q - na) 0)) := HOW.out.at (by
              have h1 := hna.out
              rw [List.append_assoc, List.append_assoc, List.getElem?_append_right (by omega), List.getElem?_append_left (by omega), ← h1, List.getD_eq_getElem?_getD, List.getElem?_eq_getElem (by omega)]; rfl)
            have c2 : wr.cell? ⟨g, d, none⟩ = some (.int .i64 (R.getD (d - nm) 0)) := HOW.out.at (by
              have h1 := hna.out
              have h2 := hnm.out
              have h3 : (P ++ L).length = nm := by rw [List.length_append]; omega
              rw [List.append_assoc, List.getElem?_append_right (by omega), h3, List.getElem?_append_left (by omega), List.getD_eq_getElem?_getD, List.getElem?_eq_getElem (by omega)]; rfl)
            have hqn : (q : Int) < (n : Int) := by omega
            have hdn : (d : Int) < (n : Int) := by omega
            have HCZ := Lib.hid (fun wx (hb : Below wr.heap.size wr wx) => HC.out wx (Stays.of_below (bnext HBW.out hb) _) (R.getD (d - nm) 0) (L.getD (q - na) 0) (HDR.out _ (by rw [List.getD_eq_getElem?_getD, List.getElem?_eq_getElem (show d - nm < R.length by omega)]; exact List.getElem_mem _)) (HDL.out _ (by rw [List.getD_eq_getElem?_getD, List.getElem?_eq_getElem (show q - na < L.length by omega)]; exact List.getElem_mem _)))
            by_cases hkk : key (R.getD (d - nm) 0) < key (L.getD (q - na) 0)
            · have hcl := so.cmpI_lt hkk
              have HEN : Hid ((∀ c, lo ≤ c → c < i → ¬ key (R.getD (md + nm - 1 - c - nm) 0) < key (L.getD (c - na) 0)) ∧ ∀ c, q ≤ c → c < hi → key (R.getD (md + nm - 1 - c - nm) 0) < key (L.getD (c - na) 0)) := Lib.hid ⟨HJ.out.1, fun c h1 h2 => by
                by_cases hc : c = q
                · rw [hc, ← ed]; exact hkk
                · have h3 := so.cut_pred_mono HCUT.out HL.out HR.out (c := q) (d := c) (by omega) (by omega) h2
                  rw [← ed] at h3
                  omega⟩
              clear HJ HOW HO HC HIH HL HR HLR HDL HDR HP HCUT hkk ed p1 p2 p3 p4 p5
              generalize R.getD (d - nm) 0 = u at *
              generalize L.getD (q - na) 0 = v at *
              go_upto_region 35 with fail
              go_quiet ((go_at_call 36; exact Calls.quiet_of (HCZ.out _ (by exact bdrewN (bself _) _))))
              go_wp2
              go_roundw
              case rel => exact ⟨i, q, rfl, rfl, hi1, by omega, by omega, Lib.hid (bdrewN HBW.out _), HEN⟩
              case measure => simp [intOf]; omega
            · have hcl := so.cmpI_ge hkk
              have HEN : Hid ((∀ c, lo ≤ c → c < q + 1 → ¬ key (R.getD (md + nm - 1 - c - nm) 0) < key (L.getD (c - na) 0)) ∧ ∀ c, j ≤ c → c < hi → key (R.getD (md + nm - 1 - c - nm) 0) < key (L.getD (c - na) 0)) := Lib.hid ⟨fun c h1 h2 => by
                by_cases hc : c = q
                · rw [hc, ← ed]; exact hkk
                · have h3 := so.cut_pred_mono HCUT.out HL.out HR.out (c := c) (d := q) h1 (by omega) (by omega)
                  rw [← ed] at h3
                  omega, HJ.out.2⟩
              clear HJ HOW HO HC HIH HL HR HLR HDL HDR HP HCUT hkk ed p1 p2 p3 p4 p5
              generalize R.getD (d - nm) 0 = u at *
              generalize L.getD (q - na) 0 = v at *
              go_upto_region 35 with fail
              go_quiet ((go_at_call 36; exact Calls.quiet_of (HCZ.out _ (by exact bdrewN (bself _) _))))
              go_wp2
              go_roundw
              case rel => exact ⟨q + 1, j, by go_num, rfl, by omega, by omega, hj, Lib.hid (bdrewN HBW.out _), HEN⟩
              case measure => simp [intOf]; omega
          · obtain rfl : i = j := by omega
            have HDN := Lib.hid (so.cut_done HCUT.out HL.out HR.out HLR.out ⟨hi1, hj⟩ HJ.out.1 HJ.out.2)
            clear HJ HO HC HIH HL HR HLR HDL HDR HP HCUT
            go_wp2
            go_meet
            exact ⟨i, rfl, hi1, hj, HBW, HDN⟩
    case rest =>
      obtain ⟨s, rfl, hs1, hs2, HBW, HDN⟩ := hcut
      rename World => w2
      obtain ⟨e, he⟩ : ∃ e : Nat, Hid (e = md + nm - s) := ⟨_, Lib.hid rfl⟩
      have ee := he.out
      obtain ⟨q1, q2, q3, q4, q5, q6⟩ := HCUT.out
      have hnums : na ≤ s ∧ s ≤ nm ∧ nm ≤ e ∧ e ≤ nb ∧ s + (e - nm) = md ∧ e - md = nm - s := by omega
      have hee : (md : Int) + (nm : Int) - (s : Int) = (e : Int) := by omega
      obtain ⟨L1, L2, R1, R2, HLL, HRR, hL1, hL2, hR1, hR2, HX⟩ : ∃ L1 L2 R1 R2, Hid (L = L1 ++ L2) ∧ Hid (R = R1 ++ R2) ∧ L1.length = s - na ∧ L2.length = nm - s ∧ R1.length = e - nm ∧ R2.length = nb - e ∧ Hid ((∀ x ∈ L1, ∀ y ∈ R2, so.lx key x y) ∧ ∀ x ∈ R1, ∀ y ∈ L2, so.lx key x y) := by
        refine ⟨L.take (s - na), L.drop (s - na), R.take (e - nm), R.drop (e - nm), Lib.hid (List.take_append_drop _ _).symm, Lib.hid (List.take_append_drop _ _).symm, ?_, ?_, ?_, ?_, Lib.hid ?_⟩
        · rw [List.length_take]; omega
        · rw [List.length_drop]; omega
        · rw [List.length_take]; omega
        · rw [List.length_drop]; omega
        · rw [ee]; exact HDN.out
      have HO2 : Hid (OI w2 B g n c (P ++ L1 ++ L2 ++ R1 ++ R2 ++ S)) := Lib.hid (by
        have h := HO.out.stays (Stays.of_below HBW.out (fun _ => False)) id
        rw [HLL.out, HRR.out] at h
        simpa using h)
      have HST2 : Hid (Stays w w2 (fun q => q = g)) := Lib.hid (Stays.of_below HBW.out _)
      have hnn : na ≤ 1000 ∧ nm ≤ 1000 ∧ nb ≤ 1000 := by omega
      have HLS : Hid (so.Srt key L1 ∧ so.Srt key L2 ∧ so.Srt key R1 ∧ so.Srt key R2) := Lib.hid (by
        have h1 := HL.out
        have h2 := HR.out
        rw [HLL.out] at h1
        rw [HRR.out] at h2
        exact ⟨(List.pairwise_append.1 h1).1, (List.pairwise_append.1 h1).2.1, (List.pairwise_append.1 h2).1, (List.pairwise_append.1 h2).2.1⟩)
      have HPD := Lib.hid (show na = P.length from hna.out)
      clear q1 q2 q3 q4 q5 q6 ee HO HBW HDN HP HCUT hlohi
      obtain ⟨q185, HQ185⟩ : ∃ q, Hid (q = (decide (s < nm) && decide (nm < e))) := ⟨_, Lib.hid rfl⟩
      go_upto_region 39 with fail
      go_cut [185] (fun sq wx => sq = .bool q185 ∧ w2 = wx)
      case first =>
        as_aux_lemma =>
          clear HC HIH HL HR HLR HDL HDR HX HLS
          by_cases h1 : s < nm
          · have d1 : decide (s < nm) = true := decide_eq_true h1
            by_cases h2 : nm < e
            · have d2 : decide (nm < e) = true := decide_eq_true h2
              have HE : Hid (q185 = true) := Lib.hid (by rw [HQ185.out, d1, d2]; rfl)
              go_wp2
              go_meet
              exact ⟨by rw [HE.out], rfl⟩
            · have d2 : decide (nm < e) = false := decide_eq_false h2
              have HE : Hid (q185 = false) := Lib.hid (by rw [HQ185.out, d1, d2]; rfl)
              go_wp2
              go_meet
              exact ⟨by rw [HE.out], rfl⟩
          · have d1 : decide (s < nm) = false := decide_eq_false h1
            have HE : Hid (q185 = false) := Lib.hid (by rw [HQ185.out, d1]; rfl)
            go_wp2
            go_meet
            exact ⟨by rw [HE.out], rfl⟩
      case rest =>
        obtain ⟨rfl, rfl⟩ := hcut
        go_upto_if 185 with (fail)
        go_cut [] (fun wx => Hid (Stays w wx (fun q => q = g) ∧ OI wx B g n c (P ++ (L1 ++ R1) ++ (L2 ++ R2) ++ S)))
        case first =>
          as_aux_lemma =>
            cases q185 with
            | true =>
              have h12 := HQ185.out.symm
              rw [Bool.and_eq_true] at h12
              have h1 := of_decide_eq_true h12.1
              have h2 := of_decide_eq_true h12.2
              have HRO := Lib.hid (so_rotate (P ++ L1) L2 R1 (R2 ++ S) (xs := P ++ L1 ++ L2 ++ R1 ++ R2 ++ S) (ys := P ++ (L1 ++ R1) ++ (L2 ++ R2) ++ S) (by simp) (by simp) (by omega) (by omega) (s : Int) (nm : Int) (e : Int) (by rw [List.length_append]; have := hna.out; omega) (by rw [List.length_append]; have := hna.out; omega) (by rw [List.length_append]; have := hna.out; omega) (so.cv Bx) B g n c w2 HO2.out hn)
              clear HC HIH HL HR HLR HDL HDR HX HLS h12 HQ185
              unfold so.cv at HRO
              go_wp2_with (go_at_call 60; refine HRO.out.mono ?_; rintro e' w3 ⟨rfl, ho3, hs3⟩; have HO3 := Lib.hid ho3; have HS3 := Lib.hid hs3; clear ho3 hs3)
              go_meet
              exact Lib.hid ⟨HST2.out.comp HS3.out, HO3.out⟩
            | false =>
              have HE : Hid (OI w2 B g n c (P ++ (L1 ++ R1) ++ (L2 ++ R2) ++ S)) := Lib.hid (by
                have h := HO2.out
                by_cases h1 : s < nm
                · have hz : R1 = [] := List.eq_nil_of_length_eq_zero (by
                    by_cases h2 : nm < e
                    · have := HQ185.out; rw [decide_eq_true h1, decide_eq_true h2] at this; cases this
                    · omega)
                  rw [hz] at h ⊢
                  simpa using h
                · have hz : L2 = [] := List.eq_nil_of_length_eq_zero (by omega)
                  rw [hz] at h ⊢
                  simpa using h)
              clear HC HIH HL HR HLR HDL HDR HX HLS HQ185
              go_wp2
              go_meet
              exact Lib.hid ⟨HST2.out, HE.out⟩
        case rest =>
          rename World => w3
          have H3 := hcut
          clear hcut HO2 HST2 HQ185
          obtain ⟨q199, HQ199⟩ : ∃ q, Hid (q = (decide (na < s) && decide (s < md))) := ⟨_, Lib.hid rfl⟩
          go_upto_region 41 with fail
          go_cut [199] (fun sq wx => sq = .bool q199 ∧ w3 = wx)
          case first =>
            as_aux_lemma =>
              clear HC HIH HL HR HLR HDL HDR HX HLS
              by_cases h1 : na < s
              · have d1 : decide (na < s) = true := decide_eq_true h1
                by_cases h2 : s < md
                · have d2 : decide (s < md) = true := decide_eq_true h2
                  have HE : Hid (q199 = true) := Lib.hid (by rw [HQ199.out, d1, d2]; rfl)
                  go_wp2
                  go_meet
                  exact ⟨by rw [HE.out], rfl⟩
                · have d2 : decide (s < md) = false := decide_eq_false h2
                  have HE : Hid (q199 = false) := Lib.hid (by rw [HQ199.out, d1, d2]; rfl)
                  go_wp2
                  go_meet
                  exact ⟨by rw [HE.out], rfl⟩
              · have d1 : decide (na < s) = false := decide_eq_false h1
                have HE : Hid (q199 = false) := Lib.hid (by rw [HQ199.out, d1]; rfl)
                go_wp2
                go_meet
                exact ⟨by rw [HE.out], rfl⟩
          case rest =>
            obtain ⟨rfl, rfl⟩ := hcut
            go_upto_if 199 with (fail)
            go_cut [] (fun wx => ∃ M1 : List Int, Hid (M1.Perm (L1 ++ R1) ∧ so.Srt key M1 ∧ Stays w wx (fun q => q = g) ∧ OI wx B g n c (P ++ M1 ++ (L2 ++ R2) ++ S)))
            case first =>
              as_aux_lemma =>
                cases q199 with
                | true =>
                  have h12 := HQ199.out.symm
                  rw [Bool.and_eq_true] at h12
                  have h1 := of_decide_eq_true h12.1
                  have h2 := of_decide_eq_true h12.2
                  have HSY := Lib.hid (HIH.out P L1 R1 (L2 ++ R2 ++ S) (P ++ (L1 ++ R1) ++ (L2 ++ R2) ++ S) w3 (na : Int) (s : Int) (md : Int) (by simp) HLS.out.1 HLS.out.2.2.1 (fun x hx y hy => HLR.out x (by rw [HLL.out]; simp [hx]) y (by rw [HRR.out]; simp [hy])) (fun x hx => HDL.out x (by rw [HLL.out]; simp [hx])) (fun x hx => HDR.out x (by rw [HRR.out]; simp [hx])) (by omega) (by omega) (by have := HKK.out; have := congrArg List.length HLL.out; have := congrArg List.length HRR.out; simp only [List.length_append] at *; omega) (by have := hna.out; omega) (by have := hna.out; omega) (by have := hna.out; omega) H3.out.2 (HC.out.stays H3.out.1))
                  unfold so.cv at HSY
                  have HS3 := Lib.hid H3.out.1
                  clear HC HIH HL HR HLR HDL HDR HX HLS H3 h12 HQ199
                  go_wp2_with (go_at_call 54; refine HSY.out.mono ?_; rintro e' w4 ⟨M1, hp4, hs4, rfl, ho4, hst4⟩; have HO4 := Lib.hid ho4; have HS4 := Lib.hid hst4; have HP4 := Lib.hid hp4; have HQ4 := Lib.hid hs4; clear ho4 hst4 hp4 hs4)
                  go_meet
                  exact ⟨M1, Lib.hid ⟨HP4.out, HQ4.out, HS3.out.comp HS4.out, by have h := HO4.out; simpa using h⟩⟩
                | false =>
                  have HE : Hid (∃ M1 : List Int, Hid (M1.Perm (L1 ++ R1) ∧ so.Srt key M1 ∧ Stays w w3 (fun q => q = g) ∧ OI w3 B g n c (P ++ M1 ++ (L2 ++ R2) ++ S))) := Lib.hid ⟨L1 ++ R1, Lib.hid ⟨List.Perm.refl _, by
                    by_cases h1 : na < s
                    · have hz : R1 = [] := List.eq_nil_of_length_eq_zero (by
                        by_cases h2 : s < md
                        · have := HQ199.out; rw [decide_eq_true h1, decide_eq_true h2] at this; cases this
                        · omega)
                      rw [hz, List.append_nil]; exact HLS.out.1
                    · have hz : L1 = [] := List.eq_nil_of_length_eq_zero (by omega)
                      rw [hz, List.nil_append]; exact HLS.out.2.2.1, H3.out⟩⟩
                  clear HC HIH HL HR HLR HDL HDR HX HLS H3 HQ199
                  go_wp2
                  go_meet
                  exact HE.out
            case rest =>
              obtain ⟨M1, H4⟩ := hcut
              rename World => w4
              clear H3 HQ199
              have HFIN : Hid (∀ (M2 : List Int) (wx : World), M2.Perm (L2 ++ R2) → so.Srt key M2 → Stays w wx (fun q => q = g) → OI wx B g n c (P ++ M1 ++ M2 ++ S) → SortPost key w B g n c P (L ++ R) S (.returned (.tuple #[])) wx) := Lib.hid (fun M2 wx hp hs hst ho => ⟨M1 ++ M2, by
                rw [HLL.out, HRR.out]; exact so.merge_perm H4.out.1 hp, so.Srt.merge (by rw [← HLL.out]; exact HL.out) (by rw [← HRR.out]; exact HR.out) HX.out.1 HX.out.2 H4.out.1 hp H4.out.2.1 hs, rfl, by simpa using ho, hst⟩)
              by_cases h1 : md < e
              · have d1 : decide (md < e) = true := decide_eq_true h1
                by_cases h2 : e < nb
                · have d2 : decide (e < nb) = true := decide_eq_true h2
                  have hM1 : M1.length = md - na := by rw [H4.out.1.length_eq, List.length_append]; omega
                  have HSY := Lib.hid (HIH.out (P ++ M1) L2 R2 S (P ++ M1 ++ (L2 ++ R2) ++ S) w4 (md : Int) (e : Int) (nb : Int) (by simp) HLS.out.2.1 HLS.out.2.2.2 (fun x hx y hy => HLR.out x (by rw [HLL.out]; simp [hx]) y (by rw [HRR.out]; simp [hy])) (fun x hx => HDL.out x (by rw [HLL.out]; simp [hx])) (fun x hx => HDR.out x (by rw [HRR.out]; simp [hx])) (by omega) (by omega) (by have := HKK.out; have := congrArg List.length HLL.out; have := congrArg List.length HRR.out; simp only [List.length_append] at *; omega) (by rw [List.length_append, hM1]; have := hna.out; omega) (by rw [List.length_append, hM1]; have := hna.out; omega) (by rw [List.length_append, hM1]; have := hna.out; omega) H4.out.2.2.2 (HC.out.stays H4.out.2.2.1))
                  unfold so.cv at HSY
                  have HS4 := Lib.hid H4.out.2.2.1
                  clear HC HIH HL HR HLR HDL HDR HX HLS H4 hM1
                  go_wp2_with (go_at_call 54; refine HSY.out.mono ?_; rintro e' w5 ⟨M2, hp4, hs4, rfl, ho4, hst4⟩; have HE := Lib.hid (HFIN.out M2 w5 hp4 hs4 (HS4.out.comp hst4) ho4); clear ho4 hst4 hp4 hs4)
                  go_end0
                  exact HE.out
                · have d2 : decide (e < nb) = false := decide_eq_false h2
                  have HE := Lib.hid (HFIN.out (L2 ++ R2) w4 (List.Perm.refl _) (by
                    have hz : R2 = [] := List.eq_nil_of_length_eq_zero (by omega)
                    rw [hz, List.append_nil]; exact HLS.out.2.1) H4.out.2.2.1 H4.out.2.2.2)
                  clear HC HIH HL HR HLR HDL HDR HX HLS H4 HFIN
                  go_wp2
                  go_end0
                  exact HE.out
              · have d1 : decide (md < e) = false := decide_eq_false h1
                have HE := Lib.hid (HFIN.out (L2 ++ R2) w4 (List.Perm.refl _) (by
                  have hz : L2 = [] := List.eq_nil_of_length_eq_zero (by omega)
                  rw [hz, List.nil_append]; exact HLS.out.2.2.2) H4.out.2.2.1 H4.out.2.2.2)
                clear HC HIH HL HR HLR HDL HDR HX HLS H4 HFIN
                go_wp2
                go_end0
                exact HE.out
theorem so_symMerge (key : Int → Int) (Dom : Int → Prop) (B g n c Bx : Nat) (hn : n ≤ 1000) : ∀ k, SymOk key Dom B g n c Bx k
  | 0 => fun P L R S xs w a m b _ _ _ _ _ _ h1 h2 h3 => by omega
  | k + 1 => fun P L R S xs w a m b hxs hL hR hLR hdl hdr hl0 hr0 hk ha hm hb h hc => by
    by_cases h1 : L.length = 1
    · obtain ⟨x, rfl⟩ : ∃ x, L = [x] := by
        match L, h1 with
        | [x], _ => exact ⟨x, rfl⟩
      exact so_sym_first key Dom P R S x hxs hR (fun y hy => hLR x (by simp) y hy) (hdl x (by simp)) hdr hr0 a m b ha (by simpa using hm) (by simpa using hb) B g n c Bx w h hn hc
    · by_cases h2 : R.length = 1
      · obtain ⟨y, rfl⟩ : ∃ y, R = [y] := by
          match R, h2 with
          | [y], _ => exact ⟨y, rfl⟩
        exact so_sym_last key Dom P L S y hxs hL (fun x hx => hLR x hx y (by simp)) (hdr y (by simp)) hdl (by omega) a m b ha hm (by simpa using hb) B g n c Bx w h hn hc
      · exact so_sym_gen key Dom B g n c Bx k hn (so_symMerge key Dom B g n c Bx hn k) P L R S xs w a m b hxs hL hR hLR hdl hdr (by omega) (by omega) (by omega) ha hm hb h hc
end Go.Proofs.Ytkbmpppendelcaa
