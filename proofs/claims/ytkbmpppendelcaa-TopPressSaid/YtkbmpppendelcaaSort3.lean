/- slices: symMerge, where one side is of one element. No condition. -/
import Derived.Test.YtkbmpppendelcaaSort2
namespace Go.Proofs.Ytkbmpppendelcaa
open Go.RowKit
set_option linter.unusedSimpArgs false

set_option maxRecDepth 100000 in
set_option maxHeartbeats 2000000 in
theorem so_sym_first (key : Int → Int) (Dom : Int → Prop) (P R S : List Int) (x : Int) {xs : List Int} (hxs : xs = P ++ [x] ++ R ++ S) (hR : so.Srt key R) (hxr : ∀ y ∈ R, x < y) (hdx : Dom x) (hdr : ∀ y ∈ R, Dom y) (hr0 : 0 < R.length) (a m b : Int) (ha : a = P.length) (hm : m = (P.length + 1 : Nat)) (hb : b = (P.length + 1 + R.length : Nat)) (B g n c Bx : Nat) (w : World) (h : OI w B g n c xs) (hn : n ≤ 1000) (hc : CmpOk w g Bx key Dom) :
    Calls Try.prog 54 #[.slice (some ⟨g, 0, none⟩) n c, .int .i64 a, .int .i64 m, .int .i64 b, so.cv Bx] w (SortPost key w B g n c P (x :: R) S) := by
  have hlen := h.len
  rw [hxs] at h hlen
  simp only [List.length_append, List.length_singleton] at hlen
  obtain ⟨na, hna⟩ : ∃ na : Nat, Hid (na = P.length) := ⟨_, Lib.hid rfl⟩
  obtain ⟨nm, hnm⟩ : ∃ nm : Nat, Hid (nm = na + 1) := ⟨_, Lib.hid rfl⟩
  obtain ⟨nb, hnb⟩ : ∃ nb : Nat, Hid (nb = na + 1 + R.length) := ⟨_, Lib.hid rfl⟩
  have ena := hna.out
  have enm := hnm.out
  have enb := hnb.out
  obtain rfl : a = (na : Int) := by omega
  obtain rfl : m = (nm : Int) := by omega
  obtain rfl : b = (nb : Int) := by omega
  have HR := Lib.hid hR
  have HXR := Lib.hid hxr
  have HDX := Lib.hid hdx
  have HDR := Lib.hid hdr
  have HC := Lib.hid hc
  have HO : Hid (OI w B g n c (P ++ R.take 0 ++ x :: R.drop 0 ++ S)) := Lib.hid (by simpa using h)
  have HLN := Lib.hid hlen
  have hbn : nb ≤ n := by omega
  have hd1 : (nm : Int) - (na : Int) = 1 := by omega
  have HD1 := Lib.hid hd1
  have ham : na < nm := by omega
  have hmb : nm < nb := by omega
  have cx : w.cell? ⟨g, na, none⟩ = some (.int .i64 x) := h.at (by rw [ena, List.append_assoc, List.append_assoc]; exact so.mid_at1 P _ x)
  clear hxs ha hm hb h hR hxr hdx hdr hc hlen ena enm enb
  unfold so.cv
  go_enter Try.func54, Try.ntmps54
  go_wp2
  clear hd1
  go_loopw [10, 11] (fun iv jv wr => ∃ i j : Nat, iv = .int .i64 (i : Int) ∧ jv = .int .i64 (j : Int) ∧ nm ≤ i ∧ i ≤ j ∧ j ≤ nb ∧ Hid (Below w.heap.size w wr) ∧ Hid ((∀ r ∈ R.take (i - nm), key r < key x) ∧ ∀ r ∈ R.drop (j - nm), key x ≤ key r)) (fun i j _ => (intOf j - intOf i).toNat)
  case atStart => exact ⟨nm, nb, rfl, rfl, Nat.le_refl _, by omega, Nat.le_refl _, Lib.hid (bself w), Lib.hid ⟨by simp, by rw [List.drop_eq_nil_of_le (by have := hnm.out; have := hnb.out; omega)]; simp⟩⟩
  case round =>
    obtain ⟨i, j, rfl, rfl, hi, hij, hj, HBW, HJ⟩ := hrel
    rename World => wr
    have HOW : Hid (OI wr B g n c (P ++ R.take 0 ++ x :: R.drop 0 ++ S)) := Lib.hid (HO.out.stays (Stays.of_below HBW.out (fun _ => False)) id)
    have hlw : g < w.heap.size := HO.out.lt.2
    have cx := (HBW.out.cell (p := ⟨g, na, none⟩) hlw).trans cx
    by_cases hlt : i < j
    · obtain ⟨q, hq⟩ : ∃ q : Nat, Hid (q = (i + j) / 2) := ⟨_, Lib.hid rfl⟩
      have hq1 : i ≤ q ∧ q < j := by have := hq.out; omega
      have hqe : ((i : Int) + (j : Int)) / 2 = (q : Int) := by have := hq.out; omega
      obtain ⟨r, hr⟩ : ∃ r, R[q - nm]? = some r := ⟨_, List.getElem?_eq_getElem (by have := hnb.out; have := hnm.out; omega)⟩
      have c1 : wr.cell? ⟨g, q, none⟩ = some (.int .i64 r) := HOW.out.at (by
        have h1 := hna.out
        have h2 := hnm.out
        rw [List.take_zero, List.append_nil, List.drop_zero, List.getElem?_append_left (by rw [List.length_append, List.length_cons]; have := hnb.out; omega), List.getElem?_append_right (by omega), show q - P.length = (q - nm) + 1 by omega, List.getElem?_cons_succ]
        exact hr)
      have hqn : (q : Int) < (n : Int) := by omega
      have han : (na : Int) < (n : Int) := by omega
      have HCZ := Lib.hid (fun wx (hb : Below wr.heap.size wr wx) => HC.out wx (Stays.of_below (bnext HBW.out hb) _) r x (HDR.out r (List.mem_of_getElem? hr)) HDX.out)
      have HRM : Hid (R.getD (q - nm) 0 = r) := Lib.hid (by rw [List.getD_eq_getElem?_getD, hr]; rfl)
      by_cases hk : key r < key x
      · have hcl := so.cmpI_lt hk
        have HEN : Hid ((∀ r ∈ R.take (q + 1 - nm), key r < key x) ∧ ∀ r ∈ R.drop (j - nm), key x ≤ key r) := Lib.hid ⟨fun z hz => by
          obtain ⟨q2, h1, h2, e⟩ := so.mem_take_at hz
          by_cases hqq : q2 = q - nm
          · rw [← e, hqq, HRM.out]; exact hk
          · have h3 := (HR.out.at (i := q2) (j := q - nm) (by omega) (by have := (List.getElem?_eq_some_iff.1 hr).1; omega)).le
            rw [e, HRM.out] at h3; omega, HJ.out.2⟩
        clear HJ HR HXR HDX HDR HC HO HOW HRM hr hk
        go_upto_region 5 with fail
        go_quiet ((go_at_call 36; exact Calls.quiet_of (HCZ.out _ (by exact bdrewN (bself _) _))))
        go_wp2
        go_roundw
        case rel => exact ⟨q + 1, j, by go_num, rfl, by omega, by omega, hj, Lib.hid (bdrewN HBW.out _), HEN⟩
        case measure => simp [intOf]; omega
      · have hcl := so.cmpI_ge hk
        have HEN : Hid ((∀ r ∈ R.take (i - nm), key r < key x) ∧ ∀ r ∈ R.drop (q - nm), key x ≤ key r) := Lib.hid ⟨HJ.out.1, fun z hz => by
          obtain ⟨q2, h1, h2, e⟩ := so.mem_drop_at hz
          by_cases hqq : q2 = q - nm
          · rw [← e, hqq, HRM.out]; omega
          · have h3 := (HR.out.at (i := q - nm) (j := q2) (by omega) h2).le
            rw [e, HRM.out] at h3; omega⟩
        clear HJ HR HXR HDX HDR HC HO HOW HRM hr hk
        go_upto_region 5 with fail
        go_quiet ((go_at_call 36; exact Calls.quiet_of (HCZ.out _ (by exact bdrewN (bself _) _))))
        go_wp2
        go_roundw
        case rel => exact ⟨i, q, rfl, rfl, hi, by omega, by omega, Lib.hid (bdrewN HBW.out _), HEN⟩
        case measure => simp [intOf]; omega
    · obtain rfl : i = j := by omega
      have HS0 : Hid (Stays w wr (fun q => q = g) ∧ OI wr B g n c (P ++ R.take 0 ++ x :: R.drop 0 ++ S)) := Lib.hid ⟨Stays.of_below HBW.out _, HOW.out⟩
      have HSO : Hid (so.Srt key (R.take (i - nm) ++ x :: R.drop (i - nm))) := Lib.hid (HR.out.insert (fun y hy => so.lx.of_lt (HJ.out.1 y hy)) (fun y hy => so.lx.of_le (HJ.out.2 y hy) (HXR.out y (List.mem_of_mem_drop hy))))
      clear HJ HR HXR HDX HDR HC HO HOW cx
      rename World => w2
      go_wp2
      go_loopw [13] (fun kv wr => ∃ p : Nat, kv = .int .i64 (p : Int) ∧ na ≤ p ∧ p + 1 ≤ i ∧ Hid (Stays w wr (fun q => q = g) ∧ OI wr B g n c (P ++ R.take (p - na) ++ x :: R.drop (p - na) ++ S))) (fun kv _ => ((i : Int) - intOf kv).toNat)
      case atStart => exact ⟨na, rfl, Nat.le_refl _, by omega, Lib.hid (by rw [Nat.sub_self]; exact HS0.out)⟩
      case round =>
        clear HS0
        obtain ⟨p, rfl, hp1, hp2, HJ⟩ := hrel
        rename World => wr
        by_cases hlt : p + 1 < i
        · obtain ⟨r, hr⟩ : ∃ r, R[p - na]? = some r := ⟨_, List.getElem?_eq_getElem (by have := hnb.out; have := hnm.out; omega)⟩
          obtain ⟨hr1, hr2⟩ := List.getElem?_eq_some_iff.1 hr
          obtain ⟨hst, hO⟩ := HJ.out
          have hl1 : (P ++ R.take (p - na)).length = p := by rw [List.length_append, List.length_take]; have := hna.out; omega
          have hF : P ++ R.take (p - na) ++ x :: R.drop (p - na) ++ S = (P ++ R.take (p - na)) ++ x :: ([] ++ r :: (R.drop (p + 1 - na) ++ S)) := by
            rw [List.drop_eq_getElem_cons hr1, hr2, show p - na + 1 = p + 1 - na by omega]; simp
          have hG : P ++ R.take (p + 1 - na) ++ x :: R.drop (p + 1 - na) ++ S = (P ++ R.take (p - na)) ++ r :: ([] ++ x :: (R.drop (p + 1 - na) ++ S)) := by
            rw [show p + 1 - na = p - na + 1 by omega, List.take_succ_eq_append_getElem hr1, hr2]; simp
          have c1 : wr.cell? ⟨g, p, none⟩ = some (.int .i64 x) := hO.at (by
            have h := so.mid_at1 (P ++ R.take (p - na)) ([] ++ r :: (R.drop (p + 1 - na) ++ S)) x
            rw [hl1] at h
            rw [hF]; exact h)
          have c2 : wr.cell? ⟨g, p + 1, none⟩ = some (.int .i64 r) := hO.at (by
            have h := so.mid_at2 (P ++ R.take (p - na)) [] (R.drop (p + 1 - na) ++ S) x r
            rw [hl1, List.length_nil, Nat.add_zero] at h
            rw [hF]; exact h)
          have f1 := hO.frozen p
          have f2 := hO.frozen (p + 1)
          have HNX : Hid (∀ wx, Below wr.heap.size wr wx → Hid (Stays w ((wx.setCell ⟨g, p, none⟩ (.int .i64 r)).setCell ⟨g, p + 1, none⟩ (.int .i64 x)) (fun q => q = g) ∧ OI ((wx.setCell ⟨g, p, none⟩ (.int .i64 r)).setCell ⟨g, p + 1, none⟩ (.int .i64 x)) B g n c (P ++ R.take (p + 1 - na) ++ x :: R.drop (p + 1 - na) ++ S))) := Lib.hid (fun wx hb => Lib.hid ⟨(hst.comp (Stays.of_below hb _)).comp ((Stays.set _ _ _ _).comp (Stays.set _ _ _ _)), by
            have h := ((hO.stays (Stays.of_below hb (fun _ => False)) id).set p r).set (p + 1) x
            have e := so.swap_mid (P ++ R.take (p - na)) [] (R.drop (p + 1 - na) ++ S) x r
            rw [hl1, List.length_nil, Nat.add_zero] at e
            rw [hF, e, ← hG] at h
            exact h⟩)
          have hpn : (p : Int) < (n : Int) := by omega
          have hpn1 : (p : Int) + 1 < (n : Int) := by omega
          have hpi : (p : Int) < (i : Int) - 1 := by omega
          clear hO hst HJ hF hG hl1 hr hr1 hr2 HSO
          go_wp2
          go_region
          go_wp2
          go_roundw
          case rel => exact ⟨p + 1, by go_num, by omega, by omega, Lib.hid ⟨(HNX.out wr (bself _)).out.1.comp (Stays.of_below (Below.drew (bself _)) _), (HNX.out wr (bself _)).out.2.drew⟩⟩
          case measure => simp [intOf]; omega
        · have hpi : ¬ ((p : Int) < (i : Int) - 1) := by omega
          have HEN : Hid (SortPost key w B g n c P (x :: R) S (.returned (.tuple #[])) wr) := Lib.hid ⟨R.take (i - nm) ++ x :: R.drop (i - nm), so.insert_perm R x _, HSO.out, rfl, by
            have h := HJ.out.2
            rw [show p - na = i - nm by have := hnm.out; omega] at h
            simpa using h, HJ.out.1⟩
          clear HJ HSO
          go_wp2
          go_end0
          exact HEN.out
end Go.Proofs.Ytkbmpppendelcaa
