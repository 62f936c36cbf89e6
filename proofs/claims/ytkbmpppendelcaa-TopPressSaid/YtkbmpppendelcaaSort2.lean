/- slices: insertion sort with a comparing function, at rows of ints of the call's own; huff.order's comparison. No condition. -/
import Derived.Test.YtkbmpppendelcaaSort1
import Derived.Deep.DeepCutAuto
namespace Go.Proofs.Ytkbmpppendelcaa
open Go.RowKit
set_option linter.unusedSimpArgs false

def so.cmpI (x y : Int) : Int := if x < y then -1 else if y < x then 1 else 0
theorem so.cmpI_lt {x y : Int} (h : x < y) : so.cmpI x y < 0 := by unfold so.cmpI; rw [if_pos h]; decide
theorem so.cmpI_ge {x y : Int} (h : ¬ x < y) : ¬ so.cmpI x y < 0 := by unfold so.cmpI; rw [if_neg h]; split <;> decide
theorem so.cmpI_bd (x y : Int) : -1 ≤ so.cmpI x y ∧ so.cmpI x y ≤ 1 := by
  unfold so.cmpI
  split
  · omega
  · split <;> omega
set_option maxHeartbeats 400000 in
theorem cmp_isNaN (x : Int) (w : World) : Calls Try.prog 41 #[.int .i64 x] w fun e w' => e = .returned (.bool false) ∧ w = w' := by
  have hx : (x != x) = false := by simp
  go_enter Try.func41, Try.ntmps41
  go_wp2
  go_ret
  exact ⟨rfl, rfl⟩
set_option maxHeartbeats 400000 in
theorem cmp_Compare (x y : Int) (w : World) : Calls Try.prog 37 #[.int .i64 x, .int .i64 y] w fun e w' => e = .returned (.int .i64 (so.cmpI x y)) ∧ w = w' := by
  rcases Int.lt_trichotomy x y with h | h | h
  · have HE : Hid (so.cmpI x y = -1) := Lib.hid (by unfold so.cmpI; rw [if_pos h])
    go_enter Try.func37, Try.ntmps37
    go_wp2_with (go_at_call 41; refine (cmp_isNaN _ _).mono ?_; rintro e w' ⟨rfl, rfl⟩)
    go_ret
    exact ⟨ret_int HE.out.symm, rfl⟩
  · have HE : Hid (so.cmpI x y = 0) := Lib.hid (by unfold so.cmpI; rw [if_neg (by omega), if_neg (by omega)])
    have h1 : ¬ x < y := by omega
    have h2 : ¬ y < x := by omega
    clear h
    go_enter Try.func37, Try.ntmps37
    go_wp2_with (go_at_call 41; refine (cmp_isNaN _ _).mono ?_; rintro e w' ⟨rfl, rfl⟩)
    go_ret
    exact ⟨ret_int HE.out.symm, rfl⟩
  · have HE : Hid (so.cmpI x y = 1) := Lib.hid (by unfold so.cmpI; rw [if_neg (by omega), if_pos h])
    have h1 : ¬ x < y := by omega
    go_enter Try.func37, Try.ntmps37
    go_wp2_with (go_at_call 41; refine (cmp_isNaN _ _).mono ?_; rintro e w' ⟨rfl, rfl⟩)
    go_ret
    exact ⟨ret_int HE.out.symm, rfl⟩

/-- the comparing function, its box Bx -/
def so.cv (Bx : Nat) : Value := .func (.func 36) #[] #[.pointer (some ⟨Bx, 0, none⟩)]
/-- it compares by the key in every world that is w but for the block g -/
def CmpOk (w : World) (g Bx : Nat) (key : Int → Int) (Dom : Int → Prop) : Prop :=
  ∀ wx, Stays w wx (fun j => j = g) → ∀ a b : Int, Dom a → Dom b → Calls Try.prog 36 #[.int .i64 a, .int .i64 b, .pointer (some ⟨Bx, 0, none⟩)] wx fun e w' => e = .returned (.int .i64 (so.cmpI (key a) (key b))) ∧ ∃ m, w' = wx.drewN m
theorem CmpOk.stays {w w' : World} {g Bx : Nat} {key : Int → Int} {Dom : Int → Prop} (h : CmpOk w g Bx key Dom) (hs : Stays w w' (fun j => j = g)) : CmpOk w' g Bx key Dom := fun wx hx => h wx (hs.comp hx)

set_option maxHeartbeats 400000 in
theorem order_cmp (lens : List Int) (A : Option Addr) (c Bx : Nat) (a b : Nat) (ha : a < lens.length) (hb : b < lens.length) (wx : World) (hbx : wx.cell? ⟨Bx, 0, none⟩ = some (.slice A lens.length c)) (S : Nat → Prop) (hl : SlRep Rep.int wx S lens A c) :
    Calls Try.prog 36 #[.int .i64 (a : Int), .int .i64 (b : Int), .pointer (some ⟨Bx, 0, none⟩)] wx fun e w' => e = .returned (.int .i64 (so.cmpI (lens.getD a 0) (lens.getD b 0))) ∧ ∃ m, w' = wx.drewN m := by
  obtain ⟨g, o, rfl, _, c1⟩ := int_at hl ha
  obtain ⟨g', o', e, _, c2⟩ := int_at hl hb
  simp only [Option.some.injEq, Addr.mk.injEq, and_true] at e
  obtain ⟨rfl, rfl⟩ := e
  have ha' : (a : Int) < (lens.length : Int) := by omega
  have hb' : (b : Int) < (lens.length : Int) := by omega
  clear hl
  generalize lens.getD a 0 = x at *
  generalize lens.getD b 0 = y at *
  go_enter Try.func36, Try.ntmps36
  go_wp2
  go_quiet ((go_at_call 37; exact Calls.quiet_of_same ((cmp_Compare x y _).mono fun e w' ⟨h1, h2⟩ => ⟨h1, h2.symm⟩)))
  go_wp2
  go_ret
  exact ⟨rfl, _, rfl⟩

/-- behind a sort of the middle -/
def SortPost (key : Int → Int) (w : World) (B g n c : Nat) (P D S : List Int) (e : Ending) (w' : World) : Prop := ∃ M : List Int, M.Perm D ∧ so.Srt key M ∧ SoPost w B g n c (P ++ M ++ S) e w'

set_option maxRecDepth 100000 in
set_option maxHeartbeats 2000000 in
theorem so_insertion (key : Int → Int) (Dom : Int → Prop) (P D S : List Int) {xs : List Int} (hxs : xs = P ++ D ++ S) (hD : D.Pairwise (· < ·)) (hdom : ∀ x ∈ D, Dom x) (a b : Int) (ha : a = P.length) (hb : b = (P.length + D.length : Nat)) (B g n c Bx : Nat) (w : World) (h : OI w B g n c xs) (hn : n ≤ 1000) (hc : CmpOk w g Bx key Dom) :
    Calls Try.prog 53 #[.slice (some ⟨g, 0, none⟩) n c, .int .i64 a, .int .i64 b, so.cv Bx] w (SortPost key w B g n c P D S) := by
  have hlen := h.len
  rw [hxs] at h hlen
  simp only [List.length_append] at hlen
  obtain ⟨na, hna⟩ : ∃ na : Nat, Hid (na = P.length) := ⟨_, Lib.hid rfl⟩
  obtain ⟨nb, hnb⟩ : ∃ nb : Nat, Hid (nb = P.length + D.length) := ⟨_, Lib.hid rfl⟩
  obtain rfl : a = (na : Int) := by have := hna.out; omega
  obtain rfl : b = (nb : Int) := by have := hnb.out; omega
  have HD := Lib.hid hD
  have HDO := Lib.hid hdom
  have HC := Lib.hid hc
  have hab : na ≤ 1000 ∧ nb ≤ 1000 := by have := hna.out; have := hnb.out; omega
  have HS0 : Hid (∃ M : List Int, OI w B g n c (P ++ M ++ D.drop 1 ++ S) ∧ M.Perm (D.take 1) ∧ so.Srt key M) := Lib.hid ⟨D.take 1, by rw [List.append_assoc P, List.take_append_drop]; exact h, List.Perm.refl _, by
    cases D with
    | nil => exact List.Pairwise.nil
    | cons x r => exact List.pairwise_singleton _ _⟩
  have HLN := Lib.hid hlen
  clear hxs ha hb h hD hdom hc hlen
  unfold so.cv
  go_enter Try.func53, Try.ntmps53
  go_wp2
  go_loopw [8] (fun i wr => ∃ t q : Nat, i = .int .i64 (q : Int) ∧ q ≤ 1001 ∧ Hid (q = na + t ∧ 1 ≤ t ∧ (t ≤ D.length ∨ t = 1) ∧ Stays w wr (fun q => q = g) ∧ ∃ M : List Int, OI wr B g n c (P ++ M ++ D.drop t ++ S) ∧ M.Perm (D.take t) ∧ so.Srt key M)) (fun i _ => ((nb : Int) - intOf i).toNat)
  case atStart => exact ⟨1, na + 1, by go_num, by omega, Lib.hid ⟨rfl, by omega, .inr rfl, Stays.refl _ _, HS0.out⟩⟩
  case round =>
    clear HS0
    obtain ⟨t, q, rfl, hq1, HJ⟩ := hrel
    rename World => wo
    have hqt : q = na + t := HJ.out.1
    have ht : 1 ≤ t := HJ.out.2.1
    have ht2 := HJ.out.2.2.1
    have enb := hnb.out
    have ena := hna.out
    by_cases hlt : t < D.length
    · have htb : (q : Int) < (nb : Int) := by omega
      obtain ⟨_, _, _, hst, M, hO, hp, hs⟩ := HJ.out
      have hml : M.length = t := by rw [hp.length_eq, List.length_take]; omega
      have HML := Lib.hid hml
      obtain ⟨x, hx⟩ : ∃ x, D[t]? = some x := ⟨_, List.getElem?_eq_getElem hlt⟩
      have hxd : D.drop t = x :: D.drop (t + 1) := by
        obtain ⟨h1, e1⟩ := List.getElem?_eq_some_iff.1 hx
        rw [List.drop_eq_getElem_cons h1, e1]
      have HXM : Hid (∀ y ∈ M, y < x ∧ Dom y) := Lib.hid (fun y hy => by
        have hm := hp.mem_iff.1 hy
        obtain ⟨q, hq, e⟩ := List.mem_iff_getElem.1 hm
        rw [List.length_take] at hq
        rw [List.getElem_take] at e
        obtain ⟨h1, e1⟩ := List.getElem?_eq_some_iff.1 hx
        have := List.pairwise_iff_getElem.1 HD.out q t (by omega) h1 (by omega)
        rw [e, e1] at this
        exact ⟨this, HDO.out y (List.mem_of_mem_take hm)⟩)
      have HDX : Hid (Dom x) := Lib.hid (HDO.out x (List.mem_of_getElem? hx))
      have HPX : Hid ((x :: M).Perm (D.take (t + 1))) := Lib.hid (by
        obtain ⟨h1, e1⟩ := List.getElem?_eq_some_iff.1 hx
        rw [List.take_succ_eq_append_getElem h1, e1]
        exact (List.Perm.cons x hp).trans (List.perm_append_singleton x _).symm)
      have HSM := Lib.hid hs
      have HST := Lib.hid hst
      have HO : Hid (OI wo B g n c (P ++ M.take t ++ x :: M.drop t ++ D.drop (t + 1) ++ S)) := Lib.hid (by
        rw [hxd] at hO
        rw [List.take_of_length_le (by omega), List.drop_eq_nil_of_le (by omega)]
        simpa using hO)
      have HQT := Lib.hid hqt
      have htd := hlt
      clear hO hp hs hst HJ hml hx hxd enb ena hqt ht2 hlt
      go_wp2
      go_loopw [9] (fun j wr => ∃ u p : Nat, j = .int .i64 (p : Int) ∧ p ≤ q ∧ na ≤ p ∧ Hid (p = na + u ∧ u ≤ t ∧ Stays w wr (fun q => q = g) ∧ OI wr B g n c (P ++ M.take u ++ x :: M.drop u ++ D.drop (t + 1) ++ S) ∧ ∀ y ∈ M.drop u, so.lx key x y)) (fun j _ => (intOf j - (na : Int)).toNat)
      case atStart => exact ⟨t, q, rfl, Nat.le_refl _, by have := HQT.out; omega, Lib.hid ⟨HQT.out, Nat.le_refl _, HST.out, HO.out, by
        rw [List.drop_eq_nil_of_le (by have := HML.out; omega)]
        intro y hy; cases hy⟩⟩
      case round =>
        clear HO HST
        obtain ⟨u, p, rfl, hpq, hpa, HJ⟩ := hrel
        rename World => wr
        obtain ⟨hpu, hu, hst, hO, hlx⟩ := HJ.out
        have hml := HML.out
        have hqt := HQT.out
        have HEX : Hid ((∀ y ∈ M.take u, so.lx key y x) → ∀ wx, Below wr.heap.size wr wx → Hid (q + 1 = na + (t + 1) ∧ 1 ≤ t + 1 ∧ (t + 1 ≤ D.length ∨ t + 1 = 1) ∧ Stays w wx (fun q => q = g) ∧ ∃ M : List Int, OI wx B g n c (P ++ M ++ D.drop (t + 1) ++ S) ∧ M.Perm (D.take (t + 1)) ∧ so.Srt key M)) := Lib.hid (fun hle wx hb => Lib.hid ⟨by omega, by omega, .inl (by omega), hst.comp (Stays.of_below hb _), M.take u ++ x :: M.drop u, by
            have h2 := hO.stays (Stays.of_below hb (fun _ => False)) id
            simpa using h2, (so.insert_perm M x u).trans HPX.out, HSM.out.insert hle hlx⟩)
        by_cases hu0 : u = 0
        · have hng : ¬ ((na : Int) < (p : Int)) := by omega
          have dg : decide ((na : Int) < (p : Int)) = false := decide_eq_false hng
          have dg' : decide (na < p) = false := decide_eq_false (by omega)
          have HEN := Lib.hid (HEX.out (fun y hy => by rw [hu0] at hy; simp at hy))
          clear hst hO hlx HJ HXM HPX HSM HC HDX hml HEX hu0 hpu hqt
          go_upto_region 4 with fail
          go_quiet (fail)
          go_wp2
          go_roundw
          case rel => exact ⟨t + 1, q + 1, by go_num, by have := hnb.out; have := hna.out; have := HQT.out; omega, HEN.out _ (by repeat (first | (with_reducible exact Below.refl _ _) | (with_reducible assumption) | (with_reducible refine bset ?_ ?_ _) | (with_reducible refine balloc ?_ _) | (with_reducible refine Below.drew ?_) | (with_reducible refine bdrewN ?_ _) | (with_reducible refine bnext ?_ (by with_reducible assumption)) | exact Nat.le_refl _ | (simp; done) | omega | (simp; omega)))⟩
          case measure => simp [intOf]; omega
        · have hgt : (na : Int) < (p : Int) := by omega
          have dg : decide ((na : Int) < (p : Int)) = true := decide_eq_true hgt
          have dg' : decide (na < p) = true := decide_eq_true (by omega)
          obtain ⟨z, hz⟩ : ∃ z, M[u - 1]? = some z := ⟨_, List.getElem?_eq_getElem (by omega)⟩
          obtain ⟨hz1, hz2⟩ := List.getElem?_eq_some_iff.1 hz
          have ena := hna.out
          have enb := hnb.out
          have eln := HLN.out
          have hup : 0 < p := by omega
          have hMU : M.take u = M.take (u - 1) ++ [z] := by
            conv => lhs; rw [show u = u - 1 + 1 by omega]
            rw [List.take_succ_eq_append_getElem (by omega), hz2]
          have hMD : M.drop (u - 1) = z :: M.drop u := by rw [List.drop_eq_getElem_cons (by omega), hz2, show u - 1 + 1 = u by omega]
          have hl1 : (P ++ M.take (u - 1)).length = p - 1 := by rw [List.length_append, List.length_take]; omega
          have hF : P ++ M.take u ++ x :: M.drop u ++ D.drop (t + 1) ++ S = (P ++ M.take (u - 1)) ++ z :: ([] ++ x :: (M.drop u ++ D.drop (t + 1) ++ S)) := by rw [hMU]; simp
          have c1 : wr.cell? ⟨g, p - 1, none⟩ = some (.int .i64 z) := hO.at (by rw [hF, ← hl1, so.mid_at1])
          have c2 : wr.cell? ⟨g, p, none⟩ = some (.int .i64 x) := hO.at (by
            have h := so.mid_at2 (P ++ M.take (u - 1)) [] (M.drop u ++ D.drop (t + 1) ++ S) z x
            rw [hl1, List.length_nil, Nat.add_zero, show p - 1 + 1 = p by omega] at h
            rw [hF]; exact h)
          have f1 := hO.frozen (p - 1)
          have f2 := hO.frozen p
          have hpn : (p : Int) < (n : Int) := by omega
          have hpn1 : (p : Int) - 1 < (n : Int) := by omega
          have hp0 : 0 ≤ (p : Int) - 1 := by omega
          have hpp : p ≠ p - 1 := by omega
          have hpp' : p - 1 ≠ p := by omega
          have HZ := Lib.hid (HXM.out z (List.mem_of_getElem? hz))
          have HCZ := Lib.hid (fun wx (hb : Below wr.heap.size wr wx) => HC.out wx (hst.comp (Stays.of_below hb _)) x z HDX.out HZ.out.2)
          by_cases hk : key x < key z
          · have hcl := so.cmpI_lt hk
            have HNX : Hid (∀ wx, Below wr.heap.size wr wx → Hid (p - 1 = na + (u - 1) ∧ u - 1 ≤ t ∧ Stays w ((wx.setCell ⟨g, p, none⟩ (.int .i64 z)).setCell ⟨g, p - 1, none⟩ (.int .i64 x)) (fun q => q = g) ∧ OI ((wx.setCell ⟨g, p, none⟩ (.int .i64 z)).setCell ⟨g, p - 1, none⟩ (.int .i64 x)) B g n c (P ++ M.take (u - 1) ++ x :: M.drop (u - 1) ++ D.drop (t + 1) ++ S) ∧ ∀ y ∈ M.drop (u - 1), so.lx key x y)) := Lib.hid (fun wx hb => Lib.hid ⟨by omega, by omega, (hst.comp (Stays.of_below hb _)).comp ((Stays.set _ _ _ _).comp (Stays.set _ _ _ _)), by
              have h := ((hO.stays (Stays.of_below hb (fun _ => False)) id).set p z).set (p - 1) x
              have e := so.swap_mid' (P ++ M.take (u - 1)) [] (M.drop u ++ D.drop (t + 1) ++ S) z x
              rw [hl1, List.length_nil, Nat.add_zero, show p - 1 + 1 = p by omega] at e
              rw [hF, e] at h
              rw [hMD]
              simpa using h, by
              rw [hMD]
              intro y hy
              rcases List.mem_cons.1 hy with rfl | hy
              · exact so.lx.of_lt hk
              · exact hlx y hy⟩)
            clear hO hlx HJ HXM HPX HSM HC HDX hml hF hMU hMD hl1 hst hz hz1 hz2 HD HDO HZ ena enb eln HEX hpu hqt hk
            go_upto_region 4 with fail
            go_quiet ((go_at_call 36; exact Calls.quiet_of (HCZ.out _ (by exact bdrewN (bself _) _))))
            go_wp2
            go_region
            go_wp2
            go_roundw
            case rel => exact ⟨u - 1, p - 1, by go_num, by omega, by omega, HNX.out _ (by repeat (first | (with_reducible exact Below.refl _ _) | (with_reducible assumption) | (with_reducible refine bset ?_ ?_ _) | (with_reducible refine balloc ?_ _) | (with_reducible refine Below.drew ?_) | (with_reducible refine bdrewN ?_ _) | (with_reducible refine bnext ?_ (by with_reducible assumption)) | exact Nat.le_refl _ | (simp; done) | omega | (simp; omega)))⟩
            case measure => simp [intOf]; omega
          · have hcl := so.cmpI_ge hk
            have HEN := Lib.hid (HEX.out (fun y hy => by
              obtain ⟨q2, hq2, hq3, e⟩ := so.mem_take_at hy
              have hyx := (HXM.out y (by have := List.mem_of_mem_take hy; exact this)).1
              refine so.lx.of_le ?_ hyx
              by_cases hqq : q2 = u - 1
              · have : y = z := by
                  rw [← e, hqq, List.getD_eq_getElem?_getD, hz]; rfl
                rw [this]; omega
              · have hlx2 := HSM.out.at (i := q2) (j := u - 1) (by omega) (by omega)
                rw [e] at hlx2
                have h3 := hlx2.le
                rw [List.getD_eq_getElem?_getD, hz] at h3
                simp only [Option.getD_some] at h3
                omega))
            clear hO hlx HJ HXM HPX HSM HC HDX hml hF hMU hMD hl1 hst hz hz1 hz2 HD HDO HZ ena enb eln HEX hpu hqt hk
            go_upto_region 4 with fail
            go_quiet ((go_at_call 36; exact Calls.quiet_of (HCZ.out _ (by exact bdrewN (bself _) _))))
            go_wp2
            go_roundw
            case rel => exact ⟨t + 1, q + 1, by go_num, by have := hnb.out; have := hna.out; have := HQT.out; omega, HEN.out _ (by repeat (first | (with_reducible exact Below.refl _ _) | (with_reducible assumption) | (with_reducible refine bset ?_ ?_ _) | (with_reducible refine balloc ?_ _) | (with_reducible refine Below.drew ?_) | (with_reducible refine bdrewN ?_ _) | (with_reducible refine bnext ?_ (by with_reducible assumption)) | exact Nat.le_refl _ | (simp; done) | omega | (simp; omega)))⟩
            case measure => simp [intOf]; omega
    · have htb : ¬ ((q : Int) < (nb : Int)) := by omega
      have HEN : Hid (SortPost key w B g n c P D S (.returned (.tuple #[])) wo) := Lib.hid (by
        obtain ⟨_, _, _, hst, M, hO, hp, hs⟩ := HJ.out
        rw [List.drop_eq_nil_of_le (by omega), List.append_nil] at hO
        rw [List.take_of_length_le (by omega)] at hp
        exact ⟨M, hp, hs, rfl, hO, hst⟩)
      clear HJ hqt ht ht2 enb ena
      go_wp2
      go_end0
      exact HEN.out
end Go.Proofs.Ytkbmpppendelcaa
