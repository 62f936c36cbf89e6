/- slices: symMerge, where the second side is of one element. No condition. -/
import Derived.Test.YtkbmpppendelcaaSort3
namespace Go.Proofs.Ytkbmpppendelcaa
open Go.RowKit
set_option linter.unusedSimpArgs false

set_option maxRecDepth 100000 in
set_option maxHeartbeats 2000000 in
theorem so_sym_last (key : Int → Int) (Dom : Int → Prop) (P L S : List Int) (y : Int) {xs : List Int} (hxs : xs = P ++ L ++ [y] ++ S) (hL : so.Srt key L) (hly : ∀ x ∈ L, x < y) (hdy : Dom y) (hdl : ∀ x ∈ L, Dom x) (hl0 : 1 < L.length) (a m b : Int) (ha : a = P.length) (hm : m = (P.length + L.length : Nat)) (hb : b = (P.length + L.length + 1 : Nat)) (B g n c Bx : Nat) (w : World) (h : OI w B g n c xs) (hn : n ≤ 1000) (hc : CmpOk w g Bx key Dom) :
    Calls Try.prog 54 #[.slice (some ⟨g, 0, none⟩) n c, .int .i64 a, .int .i64 m, .int .i64 b, so.cv Bx] w (SortPost key w B g n c P (L ++ [y]) S) := by
  have hlen := h.len
  rw [hxs] at h hlen
  simp only [List.length_append, List.length_singleton] at hlen
  obtain ⟨na, hna⟩ : ∃ na : Nat, Hid (na = P.length) := ⟨_, Lib.hid rfl⟩
  obtain ⟨nm, hnm⟩ : ∃ nm : Nat, Hid (nm = na + L.length) := ⟨_, Lib.hid rfl⟩
  obtain ⟨nb, hnb⟩ : ∃ nb : Nat, Hid (nb = nm + 1) := ⟨_, Lib.hid rfl⟩
  have ena := hna.out
  have enm := hnm.out
  have enb := hnb.out
  obtain rfl : a = (na : Int) := by omega
  obtain rfl : m = (nm : Int) := by omega
  obtain rfl : b = (nb : Int) := by omega
  have HL := Lib.hid hL
  have HLY := Lib.hid hly
  have HDY := Lib.hid hdy
  have HDL := Lib.hid hdl
  have HC := Lib.hid hc
  have HO : Hid (OI w B g n c (P ++ L.take (nm - na) ++ y :: L.drop (nm - na) ++ S)) := Lib.hid (by
    rw [List.take_of_length_le (by omega), List.drop_eq_nil_of_le (by omega)]
    simpa using h)
  have hbn : nb ≤ n := by omega
  have hd1 : (nb : Int) - (nm : Int) = 1 := by omega
  have hd2 : ¬ ((nm : Int) - (na : Int) = 1) := by omega
  have hd2' : ((nm : Int) - (na : Int) == 1) = false := by simp; omega
  have ham : na + 1 < nm := by omega
  have hmb : nm < nb := by omega
  have cy : w.cell? ⟨g, nm, none⟩ = some (.int .i64 y) := h.at (by
    have h2 := so.mid_at1 (P ++ L) S y
    rw [List.length_append, ← ena, ← enm] at h2
    simpa using h2)
  clear hxs ha hm hb h hL hly hdy hdl hc hlen ena enm enb
  unfold so.cv
  go_enter Try.func54, Try.ntmps54
  go_wp2
  clear hd1
  go_loopw [14, 15] (fun iv jv wr => ∃ i j : Nat, iv = .int .i64 (i : Int) ∧ jv = .int .i64 (j : Int) ∧ na ≤ i ∧ i ≤ j ∧ j ≤ nm ∧ Hid (Below w.heap.size w wr) ∧ Hid ((∀ r ∈ L.take (i - na), key r ≤ key y) ∧ ∀ r ∈ L.drop (j - na), key y < key r)) (fun i j _ => (intOf j - intOf i).toNat)
  case atStart => exact ⟨na, nm, rfl, rfl, Nat.le_refl _, by omega, Nat.le_refl _, Lib.hid (bself w), Lib.hid ⟨by simp, by rw [List.drop_eq_nil_of_le (by have := hnm.out; omega)]; simp⟩⟩
  case round =>
    obtain ⟨i, j, rfl, rfl, hi, hij, hj, HBW, HJ⟩ := hrel
    rename World => wr
    have HOW : Hid (OI wr B g n c (P ++ L.take (nm - na) ++ y :: L.drop (nm - na) ++ S)) := Lib.hid (HO.out.stays (Stays.of_below HBW.out (fun _ => False)) id)
    have hlw : g < w.heap.size := HO.out.lt.2
    have cy := (HBW.out.cell (p := ⟨g, nm, none⟩) hlw).trans cy
    by_cases hlt : i < j
    · obtain ⟨q, hq⟩ : ∃ q : Nat, Hid (q = (i + j) / 2) := ⟨_, Lib.hid rfl⟩
      have hq1 : i ≤ q ∧ q < j := by have := hq.out; omega
      have hqe : ((i : Int) + (j : Int)) / 2 = (q : Int) := by have := hq.out; omega
      obtain ⟨r, hr⟩ : ∃ r, L[q - na]? = some r := ⟨_, List.getElem?_eq_getElem (by have := hnm.out; omega)⟩
      have c1 : wr.cell? ⟨g, q, none⟩ = some (.int .i64 r) := HOW.out.at (by
        have h1 := hna.out
        have h2 := hnm.out
        rw [List.take_of_length_le (by omega), List.append_assoc, List.append_assoc, List.getElem?_append_right (by omega), List.getElem?_append_left (by omega), ← h1]
        exact hr)
      have hqn : (q : Int) < (n : Int) := by omega
      have hmn : (nm : Int) < (n : Int) := by omega
      have HCZ := Lib.hid (fun wx (hb : Below wr.heap.size wr wx) => HC.out wx (Stays.of_below (bnext HBW.out hb) _) y r HDY.out (HDL.out r (List.mem_of_getElem? hr)))
      have HRM : Hid (L.getD (q - na) 0 = r) := Lib.hid (by rw [List.getD_eq_getElem?_getD, hr]; rfl)
      by_cases hk : key y < key r
      · have hcl := so.cmpI_lt hk
        have HEN : Hid ((∀ r ∈ L.take (i - na), key r ≤ key y) ∧ ∀ r ∈ L.drop (q - na), key y < key r) := Lib.hid ⟨HJ.out.1, fun z hz => by
          obtain ⟨q2, h1, h2, e⟩ := so.mem_drop_at hz
          by_cases hqq : q2 = q - na
          · rw [← e, hqq, HRM.out]; exact hk
          · have h3 := (HL.out.at (i := q - na) (j := q2) (by omega) h2).le
            rw [e, HRM.out] at h3; omega⟩
        clear HJ HL HLY HDY HDL HC HO HOW HRM hr hk
        go_upto_region 17 with fail
        go_quiet ((go_at_call 36; exact Calls.quiet_of (HCZ.out _ (by exact bdrewN (bself _) _))))
        go_wp2
        go_roundw
        case rel => exact ⟨i, q, rfl, rfl, hi, by omega, by omega, Lib.hid (bdrewN HBW.out _), HEN⟩
        case measure => simp [intOf]; omega
      · have hcl := so.cmpI_ge hk
        have HEN : Hid ((∀ r ∈ L.take (q + 1 - na), key r ≤ key y) ∧ ∀ r ∈ L.drop (j - na), key y < key r) := Lib.hid ⟨fun z hz => by
          obtain ⟨q2, h1, h2, e⟩ := so.mem_take_at hz
          by_cases hqq : q2 = q - na
          · rw [← e, hqq, HRM.out]; omega
          · have h3 := (HL.out.at (i := q2) (j := q - na) (by omega) (by have := (List.getElem?_eq_some_iff.1 hr).1; omega)).le
            rw [e, HRM.out] at h3; omega, HJ.out.2⟩
        clear HJ HL HLY HDY HDL HC HO HOW HRM hr hk
        go_upto_region 17 with fail
        go_quiet ((go_at_call 36; exact Calls.quiet_of (HCZ.out _ (by exact bdrewN (bself _) _))))
        go_wp2
        go_roundw
        case rel => exact ⟨q + 1, j, by go_num, rfl, by omega, by omega, hj, Lib.hid (bdrewN HBW.out _), HEN⟩
        case measure => simp [intOf]; omega
    · obtain rfl : i = j := by omega
      have HS0 : Hid (Stays w wr (fun q => q = g) ∧ OI wr B g n c (P ++ L.take (nm - na) ++ y :: L.drop (nm - na) ++ S)) := Lib.hid ⟨Stays.of_below HBW.out _, HOW.out⟩
      have HSO : Hid (so.Srt key (L.take (i - na) ++ y :: L.drop (i - na))) := Lib.hid (HL.out.insert (fun z hz => so.lx.of_le (HJ.out.1 z hz) (HLY.out z (List.mem_of_mem_take hz))) (fun z hz => so.lx.of_lt (HJ.out.2 z hz)))
      clear HJ HL HLY HDY HDL HC HO HOW cy
      rename World => w2
      go_wp2
      go_loopw [17] (fun kv wr => ∃ p : Nat, kv = .int .i64 (p : Int) ∧ i ≤ p ∧ p ≤ nm ∧ Hid (Stays w wr (fun q => q = g) ∧ OI wr B g n c (P ++ L.take (p - na) ++ y :: L.drop (p - na) ++ S))) (fun kv _ => (intOf kv - (i : Int)).toNat)
      case atStart => exact ⟨nm, rfl, by omega, Nat.le_refl _, HS0⟩
      case round =>
        clear HS0
        obtain ⟨p, rfl, hp1, hp2, HJ⟩ := hrel
        rename World => wr
        by_cases hlt : i < p
        · obtain ⟨r, hr⟩ : ∃ r, L[p - 1 - na]? = some r := ⟨_, List.getElem?_eq_getElem (by have := hnm.out; omega)⟩
          obtain ⟨hr1, hr2⟩ := List.getElem?_eq_some_iff.1 hr
          obtain ⟨hst, hO⟩ := HJ.out
          have hl1 : (P ++ L.take (p - 1 - na)).length = p - 1 := by rw [List.length_append, List.length_take]; have := hna.out; omega
          have hF : P ++ L.take (p - na) ++ y :: L.drop (p - na) ++ S = (P ++ L.take (p - 1 - na)) ++ r :: ([] ++ y :: (L.drop (p - na) ++ S)) := by
            rw [show p - na = p - 1 - na + 1 by omega, List.take_succ_eq_append_getElem hr1, hr2]; simp
          have hG : P ++ L.take (p - 1 - na) ++ y :: L.drop (p - 1 - na) ++ S = (P ++ L.take (p - 1 - na)) ++ y :: ([] ++ r :: (L.drop (p - na) ++ S)) := by
            rw [List.drop_eq_getElem_cons hr1, hr2, show p - 1 - na + 1 = p - na by omega]; simp
          have c1 : wr.cell? ⟨g, p - 1, none⟩ = some (.int .i64 r) := hO.at (by
            have h := so.mid_at1 (P ++ L.take (p - 1 - na)) ([] ++ y :: (L.drop (p - na) ++ S)) r
            rw [hl1] at h
            rw [hF]; exact h)
          have c2 : wr.cell? ⟨g, p, none⟩ = some (.int .i64 y) := hO.at (by
            have h := so.mid_at2 (P ++ L.take (p - 1 - na)) [] (L.drop (p - na) ++ S) r y
            rw [hl1, List.length_nil, Nat.add_zero, show p - 1 + 1 = p by omega] at h
            rw [hF]; exact h)
          have f1 := hO.frozen (p - 1)
          have f2 := hO.frozen p
          have HNX : Hid (Hid (Stays w ((wr.setCell ⟨g, p, none⟩ (.int .i64 r)).setCell ⟨g, p - 1, none⟩ (.int .i64 y)).drew (fun q => q = g) ∧ OI ((wr.setCell ⟨g, p, none⟩ (.int .i64 r)).setCell ⟨g, p - 1, none⟩ (.int .i64 y)).drew B g n c (P ++ L.take (p - 1 - na) ++ y :: L.drop (p - 1 - na) ++ S))) := Lib.hid (Lib.hid ⟨(hst.comp ((Stays.set _ _ _ _).comp (Stays.set _ _ _ _))).comp (Stays.of_below (Below.drew (bself _)) _), by
            have h := (hO.set p r).set (p - 1) y
            have e := so.swap_mid' (P ++ L.take (p - 1 - na)) [] (L.drop (p - na) ++ S) r y
            rw [hl1, List.length_nil, Nat.add_zero, show p - 1 + 1 = p by omega] at e
            rw [hF, e, ← hG] at h
            exact h.drew⟩)
          have hpn : (p : Int) < (n : Int) := by omega
          have hpn1 : (p : Int) - 1 < (n : Int) := by omega
          have hp0 : 0 ≤ (p : Int) - 1 := by omega
          have hpp : p ≠ p - 1 := by omega
          have hpp' : p - 1 ≠ p := by omega
          have hpi : (i : Int) < (p : Int) := by omega
          clear hO hst HJ hF hG hl1 hr hr1 hr2 HSO
          go_wp2
          go_region
          go_wp2
          go_roundw
          case rel => exact ⟨p - 1, by go_num, by omega, by omega, HNX.out⟩
          case measure => simp [intOf]; omega
        · have hpi : ¬ ((i : Int) < (p : Int)) := by omega
          have HEN : Hid (SortPost key w B g n c P (L ++ [y]) S (.returned (.tuple #[])) wr) := Lib.hid ⟨L.take (i - na) ++ y :: L.drop (i - na), (so.insert_perm L y _).trans (List.perm_append_singleton y L).symm, HSO.out, rfl, by
            have h := HJ.out.2
            rw [show p - na = i - na by omega] at h
            simpa using h, HJ.out.1⟩
          clear HJ HSO
          go_wp2
          go_end0
          exact HEN.out
end Go.Proofs.Ytkbmpppendelcaa
