/- Texts in one: HeapZ, HeapL, HeapM, HeapQ, Long, Make, HeapN, Shelf, HeapR. No condition. -/
import Derived.Test.YtfggcmbainhglaaHkM2
import Derived.Test.YtfggcmbainhglaaHkM1
import Derived.Deep.MidRow
import Derived.Great.BuildSlice
import Derived.Shelf.Lays
import Derived.Test.YtfggcmbainhglaaProg
import Derived.Shelf.Sort.Plain
import Derived.Sort.OwnSortedInts
namespace Go.Proofs.Ytfggcmbainhglaa
open Go.RowKit
set_option linter.unusedSimpArgs false

def ho.up (fs : List (Nat × hl.T)) (j : Nat) : List (Nat × hl.T) := hp.up ho.ek ho.ez fs j
theorem ho.up_stop (fs : List (Nat × hl.T)) : ho.up fs 0 = fs := by
  unfold ho.up
  rw [hp.up, dif_neg (by omega)]
theorem ho.up_go (fs : List (Nat × hl.T)) (jm p : Nat) (hq : p = jm / 2) : ho.up fs (jm + 1) = if ho.lt fs (jm + 1) p = true then ho.up (hp.swap ho.ez fs p (jm + 1)) p else fs := by
  subst hq
  unfold ho.up
  rw [hp.up, dif_pos (by omega)]
  unfold ho.lt hp.K
  simp only [decide_eq_true_eq, Nat.add_sub_cancel]
set_option maxRecDepth 100000 in
set_option maxHeartbeats 1000000 in
theorem heap_up (B Fb : Nat) (A : Option Addr) (c : Nat) (fs : List (Nat × hl.T)) (j : Nat) (w : World) (h : FAt w B Fb A c fs) (hj : j < fs.length) (hlow : ho.Low fs) (hlen : fs.length ≤ 1001) :
    Calls Try.prog 31 #[.iface 52 (.pointer (some ⟨Fb, 0, none⟩)), .int .i64 (j : Int)] w fun e w' => e = .returned (.tuple #[]) ∧ FAt w' B Fb A c (ho.up fs j) ∧ Stays w w' (fun k => blkOf A = some k) := by
  have hmL := fun (wx : World) (hc : wx.cell? ⟨Fb, 0, none⟩ = some (.slice A fs.length c)) => meth_Less Fb _ wx hc
  have hmS := fun (wx : World) (hc : wx.cell? ⟨Fb, 0, none⟩ = some (.slice A fs.length c)) => meth_Swap Fb _ wx hc
  obtain ⟨N, hN⟩ : ∃ N, fs.length = N := ⟨_, rfl⟩
  obtain ⟨R, hR⟩ : ∃ R, ho.up fs j = R := ⟨_, rfl⟩
  have H0 : Hid (fs.length = N ∧ FAt w B Fb A c fs ∧ Stays w w (fun k => blkOf A = some k) ∧ ho.Low fs ∧ ho.up fs j = R) := Lib.hid ⟨hN, h, Stays.refl _ _, hlow, hR⟩
  rw [hN] at hj hlen hmL hmS
  rw [hR]
  clear h hlow hR hN
  go_enter Try.func31, Try.ntmps31
  go_wp2
  go_loopw [1] (fun s1 wr => ∃ (m : Nat) (gs : List (Nat × hl.T)), s1 = .int .i64 (m : Int) ∧ m < N ∧ Hid (gs.length = N ∧ FAt wr B Fb A c gs ∧ Stays w wr (fun k => blkOf A = some k) ∧ ho.Low gs ∧ ho.up gs m = R)) (fun s1 _ => (intOf s1).toNat)
  case atStart => exact ⟨j, fs, rfl, hj, H0⟩
  case round =>
    obtain ⟨m, gs, rfl, hm, HG⟩ := hrel
    rename World => wr
    obtain ⟨g1, g2, g3, g4, g5⟩ := HG.out
    have f0 := g2.box.get 0
    have l0 := g2.box.lt
    simp only [List.getElem?_toArray, List.getElem?_cons_zero, g1] at f0
    cases m with
    | zero =>
      rw [ho.up_stop] at g5
      have G2 : Hid (FAt wr B Fb A c R ∧ Stays w wr (fun k => blkOf A = some k)) := Lib.hid ⟨g5 ▸ g2, g3⟩
      clear g1 g2 g3 g4 g5 HG H0
      go_wp2
      go_end0
      exact ⟨rfl, G2.out⟩
    | succ jm =>
      obtain ⟨p, hq⟩ : ∃ p : Nat, p = jm / 2 := ⟨_, rfl⟩
      obtain ⟨j1, hj1⟩ : ∃ j1 : Nat, j1 = jm + 1 := ⟨_, rfl⟩
      rw [ho.up_go gs jm p hq] at g5
      rw [← hj1] at hm g5 ⊢
      have hw1 : IntKind.i64.wrap ((j1 : Int) - 1) = (jm : Int) := by rw [show (j1 : Int) - 1 = (jm : Int) by omega]; exact IntWalk.i64_in _ (by omega)
      have hw2 : IntKind.i64.wrap ((jm : Int) / 2) = (p : Int) := by rw [show (jm : Int) / 2 = (p : Int) by omega]; exact IntWalk.i64_in _ (by omega)
      have hpj : p < j1 := by omega
      have hne : ((p : Int) == (j1 : Int)) = false := by simp; omega
      have hne2 : ¬ (p : Int) = (j1 : Int) := by omega
      have HLS := Lib.hid (forest_Less B A c gs j1 p wr g2.rt (by rw [g1]; omega) (by rw [g1]; omega) g4)
      rw [g1] at HLS
      obtain ⟨b, hb⟩ : ∃ b, ho.lt gs j1 p = b := ⟨_, rfl⟩
      have HLB : Hid (decide (ho.ek (gs.getD j1 ho.ez) < ho.ek (gs.getD p ho.ez)) = b) := Lib.hid hb
      rw [HLB.out] at HLS
      rw [hb] at g5
      have G1 := Lib.hid g1
      have G2 := Lib.hid g2
      have G3 := Lib.hid g3
      have G4 := Lib.hid g4
      have G5 := Lib.hid g5
      clear hb HLB hq hj1 g1 g2 g3 g4 g5 HG H0
      cases b with
      | false =>
        have G5b : Hid (R = gs) := Lib.hid (by rw [← G5.out]; rfl)
        go_wp2_with (first
          | (go_at_call 80; ((with_reducible refine HLS.out.mono ?_); rintro e w5 ⟨rfl, hb5⟩; have HB5 := Lib.hid hb5; clear hb5))
          | fail)
        go_end0
        exact ⟨rfl, by rw [G5b.out]; exact G2.out.next HB5.out, G3.out.comp (Stays.of_below HB5.out _)⟩
      | true =>
        have HSW : Hid (∀ wx, Below wr.heap.size wr wx → Calls Try.prog 81 #[.slice A N c, .int .i64 (p : Int), .int .i64 (j1 : Int)] wx fun e w' => e = .returned (.tuple #[]) ∧ RowT w' B A c (hp.swap ho.ez gs p j1) ∧ Stays wx w' (fun k => blkOf A = some k)) := Lib.hid (fun wx hb => by
          have h9 := forest_Swap B A c gs p j1 wx (G2.out.next hb).rt (by rw [G1.out]; omega) (by rw [G1.out]; omega)
          rw [G1.out] at h9
          exact h9)
        go_wp2_with (first
          | (go_at_call 80; ((with_reducible refine HLS.out.mono ?_); rintro e w5 ⟨rfl, hb5⟩; have HB5 := Lib.hid hb5; have h5 := G2.out.next hb5; have f5 := h5.box.get 0; have l5 := h5.box.lt; (simp only [List.getElem?_toArray, List.getElem?_cons_zero, G1.out] at f5); have H5 := Lib.hid h5; clear hb5 h5))
          | (go_at_call 81; ((with_reducible refine (HSW.out _ HB5.out).mono ?_); rintro e w6 ⟨rfl, r6, s6⟩; have R6 := Lib.hid r6; have S6 := Lib.hid s6; clear r6 s6))
          | fail)
        go_roundw
        case rel =>
          have hpm := hp.swap_perm ho.ez (l := gs) (i := p) (j := j1) (by rw [G1.out]; omega) (by rw [G1.out]; omega)
          refine ⟨p, hp.swap ho.ez gs p j1, rfl, by omega, Lib.hid ⟨by rw [hp.swap_length]; exact G1.out, H5.out.swapped R6.out (hp.swap_length ..) S6.out, G3.out.comp ((Stays.of_below HB5.out _).comp S6.out), G4.out.perm hpm, ?_⟩⟩
          rw [← G5.out]
          rfl
        case measure => simp [intOf]; omega
theorem ho.dn_perm {fs : List (Nat × hl.T)} {n i : Nat} (h : n ≤ fs.length) : (ho.dn fs n i).Perm fs := by
  have key : ∀ (k : Nat) (l : List (Nat × hl.T)) (i : Nat), n - i ≤ k → n ≤ l.length → (ho.dn l n i).Perm l := by
    intro k
    induction k with
    | zero =>
      intro l i hk hl
      rw [ho.dn_stop (by omega)]
    | succ k ih =>
      intro l i hk hl
      by_cases hc : 2 * i + 1 < n
      · rw [ho.dn_go hc rfl]
        generalize hj : (if 2 * i + 2 < n ∧ ho.lt l (2 * i + 2) (2 * i + 1) = true then 2 * i + 2 else 2 * i + 1) = j
        have hjn : j < n ∧ i < j := by split at hj <;> omega
        split
        · exact (ih _ j (by omega) (by rw [hp.swap_length]; exact hl)).trans (hp.swap_perm ho.ez (by omega) (by omega))
        · exact List.Perm.refl _
      · rw [ho.dn_stop hc]
  exact key (n - i) fs i (Nat.le_refl _) h
def ho.ini (l : List (Nat × hl.T)) (k : Nat) (m : List (Nat × hl.T)) : List (Nat × hl.T) := hp.init ho.ek ho.ez l k m
set_option maxRecDepth 100000 in
set_option maxHeartbeats 1000000 in
theorem heap_Init (B Fb : Nat) (A : Option Addr) (c : Nat) (fs : List (Nat × hl.T)) (w : World) (h : FAt w B Fb A c fs) (hlow : ho.Low fs) (hlen : fs.length ≤ 1000) :
    Calls Try.prog 18 #[.iface 52 (.pointer (some ⟨Fb, 0, none⟩))] w fun e w' => e = .returned (.tuple #[]) ∧ FAt w' B Fb A c (ho.ini fs (fs.length / 2) fs) ∧ Stays w w' (fun k => blkOf A = some k) := by
  have f0 := h.box.get 0
  simp only [List.getElem?_toArray, List.getElem?_cons_zero] at f0
  have hm := meth_Len Fb _ w f0
  obtain ⟨N, hN⟩ : ∃ N, fs.length = N := ⟨_, rfl⟩
  obtain ⟨R, hR⟩ : ∃ R, ho.ini fs (fs.length / 2) fs = R := ⟨_, rfl⟩
  have HIN : Hid (∀ k gs, ho.ini fs (k + 1) gs = ho.ini fs k (ho.dn gs N k)) := Lib.hid (fun k gs => by unfold ho.ini ho.dn; rw [hp.init, hN])
  have HI0 : Hid (∀ gs, ho.ini fs 0 gs = gs) := Lib.hid (fun gs => rfl)
  obtain ⟨h2, hh2⟩ : ∃ h2 : Nat, h2 = N / 2 := ⟨_, rfl⟩
  have H0 : Hid (fs.length = N ∧ FAt w B Fb A c fs ∧ Stays w w (fun k => blkOf A = some k) ∧ ho.Low fs ∧ ho.ini fs h2 fs = R) := Lib.hid ⟨hN, h, Stays.refl _ _, hlow, by rw [hh2, ← hN]; exact hR⟩
  rw [hN] at hlen hm f0
  rw [hR]
  have hw1 : IntKind.i64.wrap ((N : Int) / 2) = (h2 : Int) := by rw [show (N : Int) / 2 = (h2 : Int) by omega]; exact IntWalk.i64_in _ (by omega)
  obtain ⟨v0, hv0⟩ : ∃ v0 : Int, v0 = (h2 : Int) - 1 := ⟨_, rfl⟩
  have hw2 : IntKind.i64.wrap ((h2 : Int) - 1) = v0 := by rw [← hv0]; exact IntWalk.i64_in _ (by omega)
  have hh3 : h2 ≤ N := by omega
  have HV0 := Lib.hid hv0
  clear h hlow hR hN hh2 hv0
  go_enter Try.func18, Try.ntmps18
  go_upto_region 2 with (first
    | (go_at_call 79; ((with_reducible refine (forest_Len _ _ _ _).mono ?_); rintro e _ ⟨rfl, rfl⟩))
    | fail)
  go_loopw [3] (fun s3 wr => ∃ (k : Nat) (v : Int) (gs : List (Nat × hl.T)), s3 = .int .i64 v ∧ k ≤ N ∧ Hid (v = (k : Int) - 1 ∧ gs.length = N ∧ FAt wr B Fb A c gs ∧ Stays w wr (fun k => blkOf A = some k) ∧ ho.Low gs ∧ ho.ini fs k gs = R)) (fun s3 _ => (intOf s3 + 1).toNat)
  case atStart => exact ⟨h2, v0, fs, rfl, hh3, Lib.hid ⟨HV0.out, H0.out⟩⟩
  case round =>
    obtain ⟨k, v, gs, rfl, hk, HG⟩ := hrel
    rename World => wr
    obtain ⟨gv, g1, g2, g3, g4, g5⟩ := HG.out
    cases k with
    | zero =>
      obtain rfl : v = -1 := by simpa using gv
      rw [HI0.out] at g5
      have G2 : Hid (FAt wr B Fb A c R ∧ Stays w wr (fun k => blkOf A = some k)) := Lib.hid ⟨g5 ▸ g2, g3⟩
      clear gv g1 g2 g3 g4 g5 HG H0
      go_wp2
      go_end0
      exact ⟨rfl, G2.out⟩
    | succ k =>
      obtain rfl : v = (k : Int) := by omega
      have hk0 : (0 : Int) ≤ (k : Int) := by omega
      obtain ⟨v1, hv1⟩ : ∃ v1 : Int, v1 = (k : Int) - 1 := ⟨_, rfl⟩
      have hw3 : IntKind.i64.wrap ((k : Int) - 1) = v1 := by rw [← hv1]; exact IntWalk.i64_in _ (by omega)
      have HDN := Lib.hid (heap_down B Fb A c gs k N wr g2 (by omega) g4 (by omega) (by omega))
      have HV1 := Lib.hid hv1
      have G1 := Lib.hid g1
      have G3 := Lib.hid g3
      have G4 := Lib.hid g4
      have G5 := Lib.hid g5
      clear hv1 gv g1 g2 g3 g4 g5 HG H0
      go_wp2_with (first
        | (go_at_call 30; ((with_reducible refine HDN.out.mono ?_); rintro e w5 ⟨⟨bb, rfl⟩, h5, s5⟩; have H5 := Lib.hid h5; have S5 := Lib.hid s5; clear h5 s5))
        | fail)
      go_roundw
      case rel =>
        have hpm : (ho.dn gs N k).Perm gs := ho.dn_perm (by rw [G1.out]; omega)
        exact ⟨k, v1, ho.dn gs N k, rfl, by omega, Lib.hid ⟨HV1.out, by rw [hpm.length_eq]; exact G1.out, H5.out, G3.out.comp S5.out, G4.out.perm hpm, by rw [← HIN.out]; exact G5.out⟩⟩
      case measure => have := HV1.out; simp [intOf]; omega
def ho.popd (fs : List (Nat × hl.T)) : List (Nat × hl.T) := ho.dn (hp.swap ho.ez fs 0 (fs.length - 1)) (fs.length - 1) 0
set_option maxRecDepth 100000 in
set_option maxHeartbeats 1000000 in
theorem heap_Pop (B Fb : Nat) (A : Option Addr) (c : Nat) (fs : List (Nat × hl.T)) (w : World) (h : FAt w B Fb A c fs) (h0 : 0 < fs.length) (hlow : ho.Low fs) (hlen : fs.length ≤ 1000) :
    Calls Try.prog 19 #[.iface 52 (.pointer (some ⟨Fb, 0, none⟩))] w fun e w' => e = .returned (.iface 47 (.pointer (some ⟨((ho.popd fs).getD (fs.length - 1) ho.ez).1, 0, none⟩))) ∧ FAt w' B Fb A c ((ho.popd fs).take (fs.length - 1)) ∧ Stays w w' (fun k => k = Fb ∨ blkOf A = some k) := by
  obtain ⟨N, hN⟩ : ∃ N, fs.length = N := ⟨_, rfl⟩
  obtain ⟨m, hm⟩ : ∃ m, N - 1 = m := ⟨_, rfl⟩
  have hmL := fun (wx : World) (hc : wx.cell? ⟨Fb, 0, none⟩ = some (.slice A fs.length c)) => meth_Len Fb _ wx hc
  have hmS := fun (wx : World) (hc : wx.cell? ⟨Fb, 0, none⟩ = some (.slice A fs.length c)) => meth_Swap Fb _ wx hc
  have hmP := fun (wx : World) => meth_Pop (some ⟨Fb, 0, none⟩) wx
  have HSW : Hid (Calls Try.prog 81 #[.slice A fs.length c, .int .i64 0, .int .i64 (m : Int)] w fun e w' => e = .returned (.tuple #[]) ∧ RowT w' B A c (hp.swap ho.ez fs 0 m) ∧ Stays w w' (fun k => blkOf A = some k)) := Lib.hid (forest_Swap B A c fs 0 m w h.rt h0 (by omega))
  have hsw := hp.swap_perm ho.ez (l := fs) (i := 0) (j := m) h0 (by omega)
  have hsl : (hp.swap ho.ez fs 0 m).length = N := by rw [hp.swap_length]; exact hN
  have HDN : Hid (∀ (wx : World), FAt wx B Fb A c (hp.swap ho.ez fs 0 m) → Calls Try.prog 30 #[.iface 52 (.pointer (some ⟨Fb, 0, none⟩)), .int .i64 0, .int .i64 (m : Int)] wx fun e w' => ho.IsB e ∧ FAt w' B Fb A c (ho.dn (hp.swap ho.ez fs 0 m) m 0) ∧ Stays wx w' (fun k => blkOf A = some k)) := Lib.hid (fun (wx : World) (hx : FAt wx B Fb A c (hp.swap ho.ez fs 0 m)) => heap_down B Fb A c (hp.swap ho.ez fs 0 m) 0 m wx hx (by omega) (hlow.perm hsw) (by omega) (by omega))
  have hdl : (ho.dn (hp.swap ho.ez fs 0 m) m 0).length = N := by rw [(ho.dn_perm (by omega)).length_eq]; exact hsl
  have HPO := Lib.hid (fun (wx : World) (hx : FAt wx B Fb A c (ho.dn (hp.swap ho.ez fs 0 m) m 0)) => forest_Pop B Fb A c (ho.dn (hp.swap ho.ez fs 0 m) m 0) wx hx (by omega))
  have HE : Hid (ho.popd fs = ho.dn (hp.swap ho.ez fs 0 m) m 0) := Lib.hid (by unfold ho.popd; rw [hN, hm])
  have H := Lib.hid h
  have f0 := h.box.get 0
  have l0 := h.box.lt
  simp only [List.getElem?_toArray, List.getElem?_cons_zero] at f0
  rw [hN] at f0 hmL hmS hlen h0 HSW ⊢
  rw [hdl, hm] at HPO
  rw [hm, HE.out]
  have HM := Lib.hid hm
  have hw1 : IntKind.i64.wrap ((N : Int) - 1) = (m : Int) := by rw [show (N : Int) - 1 = (m : Int) by omega]; exact IntWalk.i64_in _ (by omega)
  have HDL := Lib.hid hdl
  have HSL := Lib.hid hsl
  have HNN := Lib.hid hN
  clear h hlow hN hm hsw hsl hdl HE
  generalize hp.swap ho.ez fs 0 m = gs at *
  generalize ho.dn gs m 0 = ds at *
  go_enter Try.func19, Try.ntmps19
  go_wp2_with (first
    | (go_at_call 79; ((with_reducible refine (forest_Len _ _ _ _).mono ?_); rintro e _ ⟨rfl, rfl⟩))
    | (go_at_call 81; ((with_reducible refine HSW.out.mono ?_); rintro e w4 ⟨rfl, r4, s4⟩; have H4 := Lib.hid (H.out.swapped r4 (by rw [HSL.out, HNN.out]) s4); have S4 := Lib.hid s4; have l4 := H4.out.box.lt; clear r4 s4))
    | (go_at_call 30; ((with_reducible refine (HDN.out _ H4.out).mono ?_); rintro e w5 ⟨⟨bb, rfl⟩, h5, s5⟩; have H5 := Lib.hid h5; have S5 := Lib.hid s5; clear h5 s5))
    | (go_at_call 83; ((with_reducible refine (HPO.out _ H5.out).mono ?_); rintro e w6 ⟨rfl, h6, s6⟩; have H6 := Lib.hid h6; have S6 := Lib.hid s6; clear h6 s6))
    | fail)
  go_ret
  exact ⟨rfl, H6.out, ((S4.out.comp S5.out).mono fun _ _ e => .inr e).comp (S6.out.mono fun _ _ e => .inl e)⟩
def ho.psh (fs : List (Nat × hl.T)) (x : Nat × hl.T) : List (Nat × hl.T) := ho.up (fs ++ [x]) fs.length
set_option maxRecDepth 100000 in
set_option maxHeartbeats 1000000 in
theorem heap_Push (B Fb : Nat) (A : Option Addr) (c : Nat) (fs : List (Nat × hl.T)) (p : Nat) (t : hl.T) (w : World) (h : FAt w B Fb A c fs) (ht : TAt w p t) (hlow : ho.Low (fs ++ [(p, t)])) (hlen : fs.length ≤ 1000) :
    Calls Try.prog 20 #[.iface 52 (.pointer (some ⟨Fb, 0, none⟩)), .iface 47 (.pointer (some ⟨p, 0, none⟩))] w fun e w' => e = .returned (.tuple #[]) ∧ ∃ A' c', FAt w' B Fb A' c' (ho.psh fs (p, t)) ∧ Stays w w' (fun k => k = Fb ∨ blkOf A = some k) ∧ ∀ k, blkOf A' = some k → blkOf A = some k ∨ w.heap.size ≤ k := by
  obtain ⟨N, hN⟩ : ∃ N, fs.length = N := ⟨_, rfl⟩
  have hmP := fun (wx : World) => meth_Push (some ⟨Fb, 0, none⟩) wx
  have hmL := fun (wx : World) (A' : Option Addr) (c' : Nat) (hc : wx.cell? ⟨Fb, 0, none⟩ = some (.slice A' (N + 1) c')) => meth_Len Fb _ wx hc
  have HPU := Lib.hid (forest_Push B Fb A c fs p t w h ht hlen)
  have hal : (fs ++ [(p, t)]).length = N + 1 := by rw [List.length_append, hN]; rfl
  have HUP := Lib.hid (fun (wx : World) (A' : Option Addr) (c' : Nat) (hx : FAt wx B Fb A' c' (fs ++ [(p, t)])) => heap_up B Fb A' c' (fs ++ [(p, t)]) N wx hx (by omega) hlow (by omega))
  have HE : Hid (ho.psh fs (p, t) = ho.up (fs ++ [(p, t)]) N) := Lib.hid (by unfold ho.psh; rw [hN])
  rw [HE.out]
  have hw1 : IntKind.i64.wrap (((N + 1 : Nat) : Int) - 1) = (N : Int) := by rw [show ((N + 1 : Nat) : Int) - 1 = (N : Int) by omega]; exact IntWalk.i64_in _ (by omega)
  have hw2 : IntKind.i64.wrap ((N : Int) + 1 - 1) = (N : Int) := by rw [show (N : Int) + 1 - 1 = (N : Int) by omega]; exact IntWalk.i64_in _ (by omega)
  have hw3 : IntKind.i64.wrap (N : Int) = (N : Int) := IntWalk.i64_in _ (by omega)
  have HAL := Lib.hid hal
  have hlo := h.box.lt
  clear h hlow ht hN hal HE
  generalize fs ++ [(p, t)] = gs at *
  go_enter Try.func20, Try.ntmps20
  go_upto_region 1 with (first
    | (go_at_call 84; ((with_reducible refine HPU.out.mono ?_); rintro e w4 ⟨rfl, A4, c4, h4, s4, n4⟩; have H4 := Lib.hid h4; have S4 := Lib.hid s4; have N4 := Lib.hid n4; have f4 := h4.box.get 0; have l4 := h4.box.lt; (simp only [List.getElem?_toArray, List.getElem?_cons_zero, HAL.out] at f4); have hmL4 := hmL w4 A4 c4 f4; clear h4 s4 n4))
    | fail)
  clear hmL
  go_wp2_with (first
    | (go_at_call 79; ((with_reducible refine (forest_Len _ _ _ _).mono ?_); rintro e _ ⟨rfl, rfl⟩))
    | (go_at_call 31; ((with_reducible refine (HUP.out _ A4 c4 (H4.out.next (by exact (by repeat (first | (with_reducible exact Below.refl _ _) | (with_reducible assumption) | (with_reducible refine bset ?_ ?_ _) | (with_reducible refine balloc ?_ _) | (with_reducible refine Below.drew ?_) | (with_reducible refine bdrewN ?_ _) | (with_reducible refine bnext ?_ (by with_reducible assumption)) | exact Nat.le_refl _ | (simp; done) | omega | (simp; omega)))))).mono ?_); rintro e w5 ⟨rfl, h5, s5⟩; have H5 := Lib.hid h5; have S5 : Hid (Stays w4 w5 (fun k => blkOf A4 = some k)) := Lib.hid ((Stays.of_below (by exact (by repeat (first | (with_reducible exact Below.refl _ _) | (with_reducible assumption) | (with_reducible refine bset ?_ ?_ _) | (with_reducible refine balloc ?_ _) | (with_reducible refine Below.drew ?_) | (with_reducible refine bdrewN ?_ _) | (with_reducible refine bnext ?_ (by with_reducible assumption)) | exact Nat.le_refl _ | (simp; done) | omega | (simp; omega)))) _).comp s5); clear h5 s5))
    | fail)
  go_end0
  refine ⟨rfl, A4, c4, H5.out, S4.out.trans S5.out (fun k hk e => ?_), N4.out⟩
  rcases N4.out k e with e | e
  · exact .inr e
  · omega
end Go.Proofs.Ytfggcmbainhglaa
namespace Go.Proofs.Ytfggcmbainhglaa
open Go.RowKit
set_option linter.unusedSimpArgs false

/-- a count that may not be -/
def hl.out (n : Int) : Bool := decide (n < 0) || decide (1048576 < n)
def hl.bad (l : List Int) : Bool := l.any hl.out
theorem hl.bad_take {l : List Int} {k : Nat} (hk : k < l.length) : (l.take (k + 1)).any hl.out = ((l.take k).any hl.out || hl.out (l.getD k 0)) := by
  rw [List.take_add_one, List.getElem?_eq_getElem hk, List.any_append, List.getD_eq_getElem?_getD, List.getElem?_eq_getElem hk]
  simp
theorem hl.bad_of {l : List Int} {k : Nat} (hk : k < l.length) (h : hl.out (l.getD k 0) = true) : hl.bad l = true := by
  unfold hl.bad
  refine List.any_eq_true.2 ⟨l.getD k 0, ?_, h⟩
  rw [List.getD_eq_getElem?_getD, List.getElem?_eq_getElem hk]
  exact List.getElem_mem hk
theorem hl.bad_not {l : List Int} (h : hl.bad l = false) : ∀ n ∈ l, 0 ≤ n ∧ n ≤ 1048576 := fun n hn => by
  have := List.any_eq_false.1 h n hn
  unfold hl.out at this
  simp only [Bool.or_eq_true, decide_eq_true_eq] at this
  omega
set_option maxHeartbeats 400000 in
theorem huff_out (x : Int) (w : World) : Calls Try.prog 17 #[.int .i64 x] w fun e w' => e = .returned (.bool (hl.out x)) ∧ w = w' := by
  by_cases h : x < 0
  · have HE : Hid (hl.out x = true) := Lib.hid (by unfold hl.out; rw [decide_eq_true h]; rfl)
    go_enter Try.func17, Try.ntmps17
    go_wp2
    go_ret
    exact ⟨by rw [HE.out]; rfl, rfl⟩
  · have HE : Hid (hl.out x = decide (1048576 < x)) := Lib.hid (by unfold hl.out; rw [decide_eq_false h]; rfl)
    go_enter Try.func17, Try.ntmps17
    go_wp2
    go_ret
    exact ⟨by rw [HE.out]; rfl, rfl⟩
set_option maxHeartbeats 1000000 in
theorem huff_IndexFunc (l : List Int) (A : Option Addr) (c : Nat) (S : Nat → Prop) (w : World) (hl_ : SlRep Rep.int w S l A c) (hn : l.length ≤ 9223372036854775807) :
    Calls Try.prog 29 #[.slice A l.length c, .func (.func 17) #[] #[]] w fun e w' => ∃ i : Int, e = .returned (.int .i64 i) ∧ decide (0 ≤ i) = hl.bad l ∧ w = w' := by
  have HL := Lib.hid hl_
  clear hl_
  go_enter Try.func29, Try.ntmps29
  go_wp2
  go_loop [8] (fun i => ∃ k : Nat, k ≤ l.length ∧ i = .int .i64 (k : Int) ∧ Hid ((l.take k).any hl.out = false)) (fun i => l.length - (intOf i).toNat)
  case atStart => exact ⟨0, by omega, rfl, Lib.hid rfl⟩
  case round =>
    obtain ⟨k, hk, rfl, HJ⟩ := hrel
    by_cases hlt : k < l.length
    · obtain ⟨b, o, rfl, _, hc1⟩ := int_at HL.out hlt
      have hlt' : (k : Int) < (l.length : Int) := by omega
      have HO := Lib.hid (huff_out (l.getD k 0) w)
      have HB := Lib.hid (fun h : hl.out (l.getD k 0) = true => hl.bad_of hlt h)
      have HN := Lib.hid (fun h : hl.out (l.getD k 0) = false => show (l.take (k + 1)).any hl.out = false by rw [hl.bad_take hlt, HJ.out, h]; rfl)
      obtain ⟨b9, hb9⟩ : ∃ b9, hl.out (l.getD k 0) = b9 := ⟨_, rfl⟩
      rw [hb9] at HO HB HN
      clear hb9 HJ
      generalize l.getD k 0 = y at *
      cases b9 with
      | true =>
        have HB2 : Hid (hl.bad l = true) := Lib.hid (by first | exact HB.out rfl | exact HB.out trivial)
        go_wp2_with (first
          | (go_at_call 17; ((with_reducible refine HO.out.mono ?_); rintro e _ ⟨rfl, rfl⟩))
          | fail)
        go_ret
        exact ⟨(k : Int), rfl, by rw [HB2.out]; simp, rfl⟩
      | false =>
        have HN2 : Hid ((l.take (k + 1)).any hl.out = false) := Lib.hid (by first | exact HN.out rfl | exact HN.out trivial)
        go_wp2_with (first
          | (go_at_call 17; ((with_reducible refine HO.out.mono ?_); rintro e _ ⟨rfl, rfl⟩))
          | fail)
        go_round
        case rel => exact ⟨k + 1, by omega, by go_num, HN2⟩
        case measure => simp [intOf]; omega
    · obtain rfl : k = l.length := by omega
      have HE : Hid (hl.bad l = false) := Lib.hid (by have := HJ.out; rw [List.take_length] at this; exact this)
      go_wp2
      go_ret
      exact ⟨-1, rfl, by rw [HE.out]; decide, rfl⟩
set_option maxHeartbeats 400000 in
theorem huff_ContainsFunc (l : List Int) (A : Option Addr) (c : Nat) (S : Nat → Prop) (w : World) (hl_ : SlRep Rep.int w S l A c) (hn : l.length ≤ 9223372036854775807) :
    Calls Try.prog 16 #[.slice A l.length c, .func (.func 17) #[] #[]] w fun e w' => e = .returned (.bool (hl.bad l)) ∧ w = w' := by
  have HI := Lib.hid (huff_IndexFunc l A c S w hl_ hn)
  clear hl_
  generalize hl.bad l = b at *
  go_enter Try.func16, Try.ntmps16
  go_wp2_with (first
    | (go_at_call 29; ((with_reducible refine HI.out.mono ?_); rintro e _ ⟨i, rfl, hi, rfl⟩; have HIB := Lib.hid hi; clear hi))
    | fail)
  go_ret
  exact ⟨by rw [← HIB.out]; rfl, rfl⟩
def hl.fault (l : List Int) : Int := if 64 < l.length then 1 else if hl.bad l = true then 2 else 0
set_option maxHeartbeats 1000000 in
theorem ref_HuffFault (l : List Int) (A : Option Addr) (c : Nat) (S : Nat → Prop) (w : World) (hl_ : SlRep Rep.int w S l A c) (hn : l.length ≤ 9223372036854775807) :
    Calls Try.prog 6 #[.slice A l.length c] w fun e w' => e = .returned (.int .i64 (hl.fault l)) ∧ w = w' := by
  have HL := Lib.hid hl_
  clear hl_
  by_cases h64 : 64 < l.length
  · have HE : Hid (hl.fault l = 1) := Lib.hid (by unfold hl.fault; rw [if_pos h64])
    have h64' : (64 : Int) < (l.length : Int) := by omega
    go_enter Try.func6, Try.ntmps6
    go_wp2
    go_ret
    exact ⟨ret_int HE.out.symm, rfl⟩
  · have HE : Hid (hl.fault l = if hl.bad l = true then 2 else 0) := Lib.hid (by unfold hl.fault; rw [if_neg h64])
    have h64' : ¬ (64 : Int) < (l.length : Int) := by omega
    go_enter Try.func6, Try.ntmps6
    go_wp2
    go_loop [10] (fun i => ∃ k : Nat, k ≤ l.length ∧ i = .int .i64 (k : Int) ∧ Hid ((l.take k).any hl.out = false)) (fun i => l.length - (intOf i).toNat)
    case atStart => exact ⟨0, by omega, rfl, Lib.hid rfl⟩
    case round =>
      obtain ⟨k, hk, rfl, HJ⟩ := hrel
      by_cases hlt : k < l.length
      · obtain ⟨b, o, rfl, _, hc1⟩ := int_at HL.out hlt
        have hlt' : (k : Int) < (l.length : Int) := by omega
        by_cases h1 : l.getD k 0 < 0
        · have HF : Hid (hl.fault l = 2) := Lib.hid (by rw [HE.out, if_pos (hl.bad_of hlt (by unfold hl.out; rw [decide_eq_true h1]; rfl))])
          clear HJ HE
          generalize l.getD k 0 = y at *
          go_wp2
          go_ret
          exact ⟨ret_int HF.out.symm, rfl⟩
        · by_cases h2 : 1048576 < l.getD k 0
          · have HF : Hid (hl.fault l = 2) := Lib.hid (by rw [HE.out, if_pos (hl.bad_of hlt (by unfold hl.out; rw [decide_eq_true h2, Bool.or_true]))])
            clear HJ HE
            generalize l.getD k 0 = y at *
            go_wp2
            go_ret
            exact ⟨ret_int HF.out.symm, rfl⟩
          · have HN2 : Hid ((l.take (k + 1)).any hl.out = false) := Lib.hid (by rw [hl.bad_take hlt, HJ.out]; unfold hl.out; rw [decide_eq_false h1, decide_eq_false h2]; rfl)
            clear HJ
            generalize l.getD k 0 = y at *
            go_wp2
            go_round
            case rel => exact ⟨k + 1, by omega, by go_num, HN2⟩
            case measure => simp [intOf]; omega
      · obtain rfl : k = l.length := by omega
        have HF : Hid (hl.fault l = 0) := Lib.hid (by rw [HE.out]; have := HJ.out; rw [List.take_length] at this; unfold hl.bad; rw [this]; rfl)
        go_wp2
        go_ret
        exact ⟨ret_int HF.out.symm, rfl⟩
end Go.Proofs.Ytfggcmbainhglaa
namespace Go.Proofs.Ytfggcmbainhglaa
open Go.RowKit
set_option linter.unusedSimpArgs false

theorem pair_at0 (p q : Value) (W : World) : (Instr.index 48 (.agg #[p, q]) (.int .i64 0)).run Try.prog W = .ok p W := by kernel_rfl
theorem pair_at1 (p q : Value) (W : World) : (Instr.index 48 (.agg #[p, q]) (.int .i64 1)).run Try.prog W = .ok q W := by kernel_rfl
theorem intNeTree : 3 ≠ 50 := by decide
def ho.iv (l : List Int) : List Value := l.map (Value.int .i64)
theorem ho.iv_set (l : List Int) (j : Nat) (x : Int) : (ho.iv l).set j (.int .i64 x) = ho.iv (l.set j x) := by
  unfold ho.iv
  rw [List.map_set]
/-- symbols lie in the row -/
def ho.Fits (n : Nat) (t : hl.T) : Prop := ∀ s ∈ hl.symsT t, s < n
def ho.stg (out o1 o2 : List Int) : Nat → List Int
  | 0 => out
  | 1 => o1
  | _ => o2
set_option maxRecDepth 100000 in
set_option maxHeartbeats 1000000 in
theorem tree_lengths (B c g n : Nat) : ∀ (t : hl.T) (p : Nat) (out : List Int) (d : Int) (w : World), TAt w p t → Own w B 3 1 (some ⟨g, 0, none⟩) n c (ho.iv out) → ho.Fits n t → 0 ≤ d → d + hl.dep t ≤ 1000 → (∃ counts, hl.WF counts t) →
    Calls Try.prog 21 #[.pointer (some ⟨p, 0, none⟩), .slice (some ⟨g, 0, none⟩) n c, .int .i64 d] w fun e w' => e = .returned (.tuple #[]) ∧ Own w' B 3 1 (some ⟨g, 0, none⟩) n c (ho.iv (hl.lay t d out)) ∧ Stays w w' (fun k => k = g)
  | .leaf cc s, p, out, d, w, ht, ho_, hf, h0, hd, hw => by
    have hs : s < n := hf s (by rw [hl.symsT]; simp)
    have hlen := ho_.len
    have td := BlkA.get ht
    have lt := BlkA.lt ht
    obtain ⟨_, e9, _, lg, od⟩ := ho_.cell (j := s) (u := .int .i64 (out.getD s 0)) (by
      have hl9 : s < out.length := by unfold ho.iv at hlen; rw [List.length_map] at hlen; omega
      unfold ho.iv
      rw [List.getElem?_map, List.getElem?_eq_getElem hl9, List.getD_eq_getElem?_getD, List.getElem?_eq_getElem hl9]
      rfl)
    simp only [Option.some.injEq, Addr.mk.injEq, and_true] at e9
    subst e9
    have of := ho_.frozenAt s
    have hs' : (s : Int) < (n : Int) := by omega
    have hcap := ho_.cap
    unfold maxLen at hcap
    have HFIN : Hid (Own (w.setCell ⟨g, s, none⟩ (.int .i64 d)) B 3 1 (some ⟨g, 0, none⟩) n c (ho.iv (out.set s d)) ∧ Stays w (w.setCell ⟨g, s, none⟩ (.int .i64 d)) (fun k => k = g)) := Lib.hid ⟨by rw [← ho.iv_set]; exact ho_.setAt _, Stays.set _ _ _ _⟩
    clear ht ho_ hf hw hlen
    go_enter Try.func21, Try.ntmps21
    go_wp2
    refine bodyPost_ret (v := .tuple #[]) (by simp [results, Try.results21, go_sem, *]) rfl ⟨rfl, HFIN.out⟩
  | .node cc pa a pb b e, p, out, d, w, ht, ho_, hf, h0, hd, hw => by
    obtain ⟨counts, hwf⟩ := hw
    have he : e = max (hl.dep a) (hl.dep b) + 1 := hwf.2.1
    have hd' : d + e ≤ 1000 := hd
    have da := hwf.2.2.1.dep0
    have db := hwf.2.2.2.dep0
    have HA : Hid (∀ wx o, TAt wx pa a → Own wx B 3 1 (some ⟨g, 0, none⟩) n c (ho.iv o) → Calls Try.prog 21 #[.pointer (some ⟨pa, 0, none⟩), .slice (some ⟨g, 0, none⟩) n c, .int .i64 (d + 1)] wx fun e w' => e = .returned (.tuple #[]) ∧ Own w' B 3 1 (some ⟨g, 0, none⟩) n c (ho.iv (hl.lay a (d + 1) o)) ∧ Stays wx w' (fun k => k = g)) := Lib.hid (fun wx o h1 h2 => tree_lengths B c g n a pa o (d + 1) wx h1 h2 (fun s hs => hf s (by rw [hl.symsT]; simp [hs])) (by omega) (by omega) ⟨counts, hwf.2.2.1⟩)
    have HB : Hid (∀ wx o, TAt wx pb b → Own wx B 3 1 (some ⟨g, 0, none⟩) n c (ho.iv o) → Calls Try.prog 21 #[.pointer (some ⟨pb, 0, none⟩), .slice (some ⟨g, 0, none⟩) n c, .int .i64 (d + 1)] wx fun e w' => e = .returned (.tuple #[]) ∧ Own w' B 3 1 (some ⟨g, 0, none⟩) n c (ho.iv (hl.lay b (d + 1) o)) ∧ Stays wx w' (fun k => k = g)) := Lib.hid (fun wx o h1 h2 => tree_lengths B c g n b pb o (d + 1) wx h1 h2 (fun s hs => hf s (by rw [hl.symsT]; simp [hs])) (by omega) (by omega) ⟨counts, hwf.2.2.2⟩)
    have td := BlkA.get ht.1
    have lt := BlkA.lt ht.1
    have HT := Lib.hid ht
    have hw1 : IntKind.i64.wrap (d + 1) = d + 1 := IntWalk.i64_in _ (by omega)
    have i0 := pair_at0 (.pointer (some ⟨pa, 0, none⟩)) (.pointer (some ⟨pb, 0, none⟩))
    have i1 := pair_at1 (.pointer (some ⟨pa, 0, none⟩)) (.pointer (some ⟨pb, 0, none⟩))
    obtain ⟨o1, ho1⟩ : ∃ o1, hl.lay a (d + 1) out = o1 := ⟨_, rfl⟩
    obtain ⟨o2, ho2⟩ : ∃ o2, hl.lay b (d + 1) o1 = o2 := ⟨_, rfl⟩
    have HE : Hid (hl.lay (.node cc pa a pb b e) d out = o2) := Lib.hid (by rw [hl.lay, ho1, ho2])
    have HO1 := Lib.hid ho1
    have HO2 := Lib.hid ho2
    have H0 : Hid (Own w B 3 1 (some ⟨g, 0, none⟩) n c (ho.iv (ho.stg out o1 o2 0)) ∧ Stays w w (fun k => k = g)) := Lib.hid ⟨ho_, Stays.refl _ _⟩
    have HF0 := Lib.hid ho_
    rw [HE.out]
    clear ht ho_ hf hwf he hd hd' ho1 ho2
    go_enter Try.func21, Try.ntmps21
    go_wp2
    go_loopw [25] (fun s25 wr => ∃ k : Nat, k ≤ 2 ∧ s25 = .int .i64 (k : Int) ∧ Hid (Own wr B 3 1 (some ⟨g, 0, none⟩) n c (ho.iv (ho.stg out o1 o2 k)) ∧ Stays w wr (fun k => k = g))) (fun s25 _ => 2 - (intOf s25).toNat)
    case atStart => exact ⟨0, by omega, rfl, H0⟩
    case round =>
      obtain ⟨k, hk, rfl, HK⟩ := hrel
      rename World => wr
      obtain ⟨hO, hS⟩ := HK.out
      have key : ∀ q cs, BlkA w q 50 cs → ¬ q = g := fun q cs hb e => by
        subst e
        exact hb.apart HF0.out intNeTree rfl
      have hA := TAt.stays hS key HT.out.2.1
      have hB := TAt.stays hS key HT.out.2.2
      have hk3 : k = 0 ∨ k = 1 ∨ k = 2 := by omega
      rcases hk3 with rfl | rfl | rfl
      · have HC := Lib.hid (HA.out wr out hA hO)
        have HS := Lib.hid hS
        clear hA hB hO hS key HK
        go_wp2_with (first
          | (go_at_call 21; ((with_reducible refine HC.out.mono ?_); rintro e w4 ⟨rfl, h4, s4⟩; have H4 := Lib.hid h4; have S4 := Lib.hid s4; clear h4 s4))
          | fail)
        go_roundw
        case rel => exact ⟨1, by omega, rfl, Lib.hid ⟨by rw [HO1.out] at H4; exact H4.out, HS.out.comp S4.out⟩⟩
        case measure => simp [intOf]
      · have HC := Lib.hid (HB.out wr o1 hB hO)
        have HS := Lib.hid hS
        clear hA hB hO hS key HK
        go_wp2_with (first
          | (go_at_call 21; ((with_reducible refine HC.out.mono ?_); rintro e w4 ⟨rfl, h4, s4⟩; have H4 := Lib.hid h4; have S4 := Lib.hid s4; clear h4 s4))
          | fail)
        go_roundw
        case rel => exact ⟨2, by omega, rfl, Lib.hid ⟨by rw [HO2.out] at H4; exact H4.out, HS.out.comp S4.out⟩⟩
        case measure => simp [intOf]
      · have HF := Lib.hid (And.intro hO hS)
        clear hA hB hO hS key HK
        go_wp2
        go_end0
        exact ⟨rfl, HF.out⟩
end Go.Proofs.Ytfggcmbainhglaa
namespace Go.Proofs.Ytfggcmbainhglaa
open Go.RowKit

theorem hl.le_sum : ∀ {l : List Int} {x : Int}, (∀ y ∈ l, 0 ≤ y) → x ∈ l → x ≤ l.sum
  | [], _, _, h => by cases h
  | y :: l, x, h0, h => by
    rw [List.sum_cons]
    have hn : ∀ m : List Int, (∀ z ∈ m, 0 ≤ z) → 0 ≤ m.sum := by
      intro m
      induction m with
      | nil => intro _; exact Int.le_refl _
      | cons z m ih => intro hz; rw [List.sum_cons]; have h1 := hz z (by simp); have h2 := ih (fun q hq => hz q (by simp [hq])); omega
    rcases List.mem_cons.1 h with rfl | h
    · have := hn l (fun z hz => h0 z (by simp [hz])); omega
    · have h1 := hl.le_sum (fun z hz => h0 z (by simp [hz])) h
      have h2 := h0 y (by simp)
      omega
theorem hl.FI.cnt_le {counts : List Int} {ts : List hl.T} (h : hl.FI counts ts) (hn : counts.length ≤ 64) (hr : ∀ n ∈ counts, n ≤ 1048576) {t : hl.T} (ht : t ∈ ts) : hl.cnt t ≤ 67108864 := by
  have h1 := hl.le_sum (l := ts.map hl.cnt) (x := hl.cnt t) (fun y hy => by
    obtain ⟨u, hu, rfl⟩ := List.mem_map.1 hy
    have := (h.wf u hu).cnt1; omega) (List.mem_map.2 ⟨t, ht, rfl⟩)
  rw [h.tot] at h1
  have hl0 : (hl.pos counts).length ≤ counts.length := by
    unfold hl.pos
    refine Nat.le_trans (List.length_filter_le ..) ?_
    rw [List.length_range]
    exact Nat.le_refl _
  have := hl.sum_le (l := (hl.pos counts).map fun s => counts.getD s 0) (b := 1048576) (fun x hx => by
    obtain ⟨s, _, rfl⟩ := List.mem_map.1 hx
    exact hl.getD_le (by omega) hr s)
  rw [List.length_map] at this
  omega
/-- a forest in order -/
structure ho.St (counts : List Int) (gs : List (Nat × hl.T)) : Prop where
  hp : hp.Hp ho.ek ho.ez gs gs.length 0
  fi : hl.FI counts (gs.map Prod.snd)
  one : gs.length = 1 → ∀ x ∈ gs, 0 < hl.dep x.2
theorem ho.low_of {counts : List Int} {gs : List (Nat × hl.T)} (h : hl.FI counts (gs.map Prod.snd)) (hn : counts.length ≤ 64) (hr : ∀ n ∈ counts, n ≤ 1048576) : ho.Low gs := fun x hx => by
  have hm : x.2 ∈ gs.map Prod.snd := List.mem_map.2 ⟨x, hx, rfl⟩
  have h1 := (h.wf _ hm).dep0
  have h2 := (h.fb _ hm).dep_le (h.cnt_le hn hr hm)
  omega
theorem ho.len_of {counts : List Int} {gs : List (Nat × hl.T)} (h : hl.FI counts (gs.map Prod.snd)) (hn : counts.length ≤ 64) : gs.length ≤ 64 := by
  have h1 := h.syms.length_eq
  have hl0 : (hl.pos counts).length ≤ counts.length := by
    unfold hl.pos
    refine Nat.le_trans (List.length_filter_le ..) ?_
    rw [List.length_range]
    exact Nat.le_refl _
  have key : ∀ ts : List hl.T, ts.length ≤ (ts.flatMap hl.symsT).length := by
    have k1 : ∀ t : hl.T, 1 ≤ (hl.symsT t).length := by
      intro t
      induction t with
      | leaf c s => exact Nat.le_refl _
      | node c pa a pb b d iha ihb => rw [hl.symsT, List.length_append]; omega
    intro ts
    induction ts with
    | nil => exact Nat.le_refl _
    | cons t ts ih => rw [List.flatMap_cons, List.length_append, List.length_cons]; have := k1 t; omega
  have h2 := key (gs.map Prod.snd)
  rw [List.length_map] at h2
  omega
/-- what a round makes of a forest -/
structure ho.Round (counts : List Int) (gs g1 g2 : List (Nat × hl.T)) (a b : Nat × hl.T) : Prop where
  e1 : g1 = (ho.popd gs).take (gs.length - 1)
  ea : a = (ho.popd gs).getD (gs.length - 1) ho.ez
  e2 : g2 = (ho.popd g1).take (g1.length - 1)
  eb : b = (ho.popd g1).getD (g1.length - 1) ho.ez
  l1 : g1.length = gs.length - 1
  l2 : g2.length = gs.length - 2
  ma : a ∈ gs
  mb : b ∈ g1
  sub : b ∈ g1 → b ∈ gs
  low1 : ho.Low g1
  low2 : ∀ p, ho.Low (g2 ++ [(p, hl.join a.1 a.2 b.1 b.2)])
  st : ∀ p, ho.St counts (ho.psh g2 (p, hl.join a.1 a.2 b.1 b.2))
  len : ∀ p, (ho.psh g2 (p, hl.join a.1 a.2 b.1 b.2)).length = gs.length - 1
theorem ho.round {counts : List Int} {gs : List (Nat × hl.T)} (hn : counts.length ≤ 64) (hr : ∀ n ∈ counts, n ≤ 1048576) (h2 : 2 ≤ gs.length) (h : ho.St counts gs) : ∃ g1 g2 a b, ho.Round counts gs g1 g2 a b := by
  obtain ⟨p1, p2, p3, p4⟩ := hp.pop_spec ho.ek ho.ez (l := gs) (by omega) h.hp
  have hl1 : ((hp.popped ho.ek ho.ez gs).take (gs.length - 1)).length = gs.length - 1 := by rw [List.length_take, hp.popped_length]; omega
  obtain ⟨g1, hg1⟩ : ∃ g1, (hp.popped ho.ek ho.ez gs).take (gs.length - 1) = g1 := ⟨_, rfl⟩
  rw [hg1] at hl1 p2 p3 p4
  rw [← hl1] at p3
  obtain ⟨q1, q2, q3, q4⟩ := hp.pop_spec ho.ek ho.ez (l := g1) (by omega) p3
  have hl2 : ((hp.popped ho.ek ho.ez g1).take (g1.length - 1)).length = g1.length - 1 := by rw [List.length_take, hp.popped_length]; omega
  obtain ⟨g2, hg2⟩ : ∃ g2, (hp.popped ho.ek ho.ez g1).take (g1.length - 1) = g2 := ⟨_, rfl⟩
  rw [hg2] at hl2 q2 q3 q4
  rw [← hl2] at q3
  obtain ⟨a, ha⟩ : ∃ a, gs.getD 0 ho.ez = a := ⟨_, rfl⟩
  obtain ⟨b, hb⟩ : ∃ b, g1.getD 0 ho.ez = b := ⟨_, rfl⟩
  rw [ha] at p1 p2 p4
  rw [hb] at q1 q2 q4
  have lowg := ho.low_of h.fi hn hr
  have low1 : ho.Low g1 := fun x hx => lowg x (p2.symm.subset (List.mem_cons_of_mem _ hx))
  have mb : b ∈ g1 := q2.symm.subset (List.mem_cons_self ..)
  have ma : a ∈ gs := p2.symm.subset (List.mem_cons_self ..)
  have key : ∀ {x y : Nat × hl.T}, (0 ≤ hl.dep x.2 ∧ hl.dep x.2 < 128) → (0 ≤ hl.dep y.2 ∧ hl.dep y.2 < 128) → ho.ek x ≤ ho.ek y → hl.cnt x.2 ≤ hl.cnt y.2 := fun {x y} h1 h2 h3 => by
    unfold ho.ek at h3
    omega
  have hfi : ∀ p : Nat, hl.FI counts (((p, hl.join a.1 a.2 b.1 b.2) :: g2).map Prod.snd) := fun p => by
    refine h.fi.step (r := g2.map Prod.snd) (a := a.2) (b := b.2) ?_ (fun t ht => ?_) (fun t ht => ?_) a.1 b.1
    · exact (p2.trans (q2.cons a)).map Prod.snd
    · obtain ⟨x, hx, rfl⟩ := List.mem_map.1 ht
      rcases List.mem_cons.1 (p2.subset hx) with rfl | hx1
      · exact Int.le_refl _
      · exact key (lowg a ma) (lowg x hx) (p4 x hx1)
    · obtain ⟨x, hx, rfl⟩ := List.mem_map.1 ht
      exact key (low1 b mb) (low1 x (q2.symm.subset (List.mem_cons_of_mem _ hx))) (q4 x hx)
  have hps := fun p : Nat => hp.push_spec ho.ek ho.ez (l := g2) (p, hl.join a.1 a.2 b.1 b.2) q3
  have hfp : ∀ p : Nat, hl.FI counts ((ho.psh g2 (p, hl.join a.1 a.2 b.1 b.2)).map Prod.snd) := fun p => (hfi p).perm ((hps p).2.1.map Prod.snd)
  refine ⟨g1, g2, a, b, hg1.symm, p1.symm, hg2.symm, q1.symm, hl1, by omega, ma, mb, fun h => p2.symm.subset (List.mem_cons_of_mem _ h), low1, fun p => ?_, fun p => ⟨?_, hfp p, fun h1 x hx => ?_⟩, fun p => ?_⟩
  · exact (ho.low_of (hfi p) hn hr).perm (List.perm_append_comm (l₁ := g2) (l₂ := [(p, hl.join a.1 a.2 b.1 b.2)]))
  · have e : (ho.psh g2 (p, hl.join a.1 a.2 b.1 b.2)).length = g2.length + 1 := (hps p).2.2
    rw [e]
    exact (hps p).1
  · have e : (ho.psh g2 (p, hl.join a.1 a.2 b.1 b.2)).length = g2.length + 1 := (hps p).2.2
    have e0 : g2 = [] := List.eq_nil_of_length_eq_zero (by omega)
    have hx2 := (hps p).2.1.subset hx
    rw [e0] at hx2
    rw [List.mem_singleton.1 hx2]
    have d1 := (lowg a ma).1
    have d2 := (low1 b mb).1
    show 0 < max (hl.dep a.2) (hl.dep b.2) + 1
    omega
  · have e : (ho.psh g2 (p, hl.join a.1 a.2 b.1 b.2)).length = g2.length + 1 := (hps p).2.2
    omega
end Go.Proofs.Ytfggcmbainhglaa
namespace Go.Proofs.Ytfggcmbainhglaa
open Go.RowKit

section
variable {P : Program}
theorem run_new (w : World) (t : TypeId) (z : Value) (hz : ((P.info? t).bind (·.zero)) = some z) : (Instr.alloc t true (.tuple #[])).run P w = .ok (.pointer (some ⟨w.heap.size, 0, none⟩)) (w.alloc (.cells z.cells t)) := by
  cases hi : P.info? t with
  | none => simp [hi] at hz
  | some i =>
    simp only [hi, Option.bind_some] at hz
    simp [Instr.alloc, zeroValue, typeInfo, hi, hz, newVar, newRow]
theorem wpList_new {ops : Array Oper} {rest : List Oper} {o : Oper} {a : Act} {w : World} {Q : Exit → Act → World → Prop} (hg : o.guard = none) (t : TypeId) (ho : o.op = .alloc t) (cs : List Value) (hz : ((P.info? t).bind (·.zero)).map (·.cells.toList) = some cs)
    (h : wpList P ops Q rest (a.put o.dst (.pointer (some ⟨w.heap.size, 0, none⟩))) (w.alloc (.cells cs.toArray t))) : wpList P ops Q (o :: rest) a w := by
  cases hzz : (P.info? t).bind (·.zero) with
  | none => rw [hzz] at hz; cases hz
  | some z =>
    rw [hzz] at hz
    simp only [Option.map_some, Option.some.injEq] at hz
    subst hz
    refine wpList_plain hg fun _ hK => ?_
    unfold Oper.wp execOp
    simp only [ho, Sem.run_bind, run_new w t z hzz, Result.andThen_ok]
    exact hK _ _ (by simpa using h)
theorem wpList_buildAs {ops : Array Oper} {rest : List Oper} {o : Oper} {a : Act} {w : World} {Q : Exit → Act → World → Prop} (hg : o.guard = none) (t : TypeId) (parts : List (Nat × Operand)) (ho : o.op = .build t parts.toArray)
    (cs : List Value) (hf : (P.built t (parts.map fun x => (x.1, a.eval x.2))).map (·.toList) = some cs)
    (h : wpList P ops Q rest (a.put o.dst (.agg cs.toArray)) w) : wpList P ops Q (o :: rest) a w := by
  cases hb : P.built t (parts.map fun x => (x.1, a.eval x.2)) with
  | none => rw [hb] at hf; cases hf
  | some c =>
    rw [hb] at hf
    simp only [Option.map_some, Option.some.injEq] at hf
    subst hf
    refine wpList_plain hg fun _ hK => ?_
    unfold Oper.wp execOp
    simp only [ho, Sem.run_bind, List.map_toArray]
    rw [run_build w t _ c (by simpa using hb)]
    simp only [Result.andThen_ok]
    exact hK _ _ (by simpa using h)
theorem foldl_set : ∀ (l : List Value) (k : Nat) (acc : Array Value), acc.size = k + l.length → (l.zipIdx k).foldl (fun a x => a.setIfInBounds x.2 x.1) acc = (acc.toList.take k ++ l).toArray
  | [], k, acc, h => by
    simp only [List.zipIdx_nil, List.foldl_nil, List.append_nil]
    rw [List.take_of_length_le (by simp at h ⊢; omega)]
  | x :: r, k, acc, h => by
    rw [List.length_cons] at h
    rw [List.zipIdx_cons, List.foldl_cons, foldl_set r (k + 1) _ (by simp only [Array.size_setIfInBounds]; omega)]
    congr 1
    rw [Array.toList_setIfInBounds, List.take_add_one, List.take_set_of_le (Nat.le_refl _), List.getElem?_set_self (by simp; omega)]
    simp
/-- a slice of one struct -/
theorem fill_one (size : Nat) (z : Array Value) (cs : List Value) (hz : z.size = size) (hc : cs.length = size) : Instr.fill (fun i => some (i * size, size)) ((Array.range (1 * size)).map (z[· % z.size]!)) [(0, .agg cs.toArray)] = some cs.toArray := by
  have h1 : ((Array.range (1 * size)).map (z[· % z.size]!)) = z := by
    apply Array.ext
    · simp [hz]
    · intro i h1 h2
      simp only [Array.getElem_map, Array.getElem_range]
      rw [Nat.mod_eq_of_lt h2]
      simp [h2]
  rw [h1]
  have h2 := foldl_set cs 0 z (by omega)
  simp only [List.take_zero, List.nil_append] at h2
  simp only [Instr.fill, Value.cells, List.size_toArray, hc, hz, Nat.zero_mul, Nat.zero_add, ne_eq, not_true_eq_false, decide_false, Bool.false_or, gt_iff_lt, Nat.lt_irrefl, Bool.false_eq_true, if_false]
  refine congrArg some (Eq.trans ?_ h2)
  rw [← Array.foldl_toList, Array.toList_zipIdx]
theorem wpList_buildOne {ops : Array Oper} {rest : List Oper} {o : Oper} {a : Act} {w : World} {Q : Exit → Act → World → Prop} (hg : o.guard = none) (t e : TypeId) (x : Operand) (ho : o.op = .buildSlice t 1 #[(0, x)]) {size bytes : Nat} (hT : ElemT P t e size bytes) (hs : size ≤ 1000)
    (cs : List Value) (hc : cs.length = size) (hx : a.eval x = .agg cs.toArray)
    (h : wpList P ops Q rest (a.put o.dst (.slice (some ⟨w.heap.size, 0, none⟩) 1 1)) (w.alloc (.cells cs.toArray e))) : wpList P ops Q (o :: rest) a w := by
  obtain ⟨i, z, hi, hz, hsize, hby, hzs⟩ := hT.info
  have hpos := hT.pos
  refine wpList_buildSlice hg t e 1 _ ho cs.toArray i z hT.und hi hz (by rw [hsize]; omega) (by rw [hsize]; omega) ?_ h
  rw [hsize]
  simp only [List.map_toArray, List.map_cons, List.map_nil, hx]
  exact fill_one size _ cs hzs hc
/-- results, one of them in memory -/
theorem results_one {fn : Func} {a t : Nat} {tmps : Array Value} {w : World} (hr : fn.results = #[.cell a t]) (b : Nat) (cs : List Value) (d : TypeDesc) (ha : tmps.getD a undef = .pointer (some ⟨b, 0, none⟩)) (hc : w.rangeAt b 0 cs)
    (hu : P.underlying t = some d) (hd : d.isRow = true) (hi : (P.info? t).map (·.size) = some cs.length) : (results fn tmps).run P w = .ok (.agg cs.toArray) w := by
  have ha' : tmps[a]?.getD undef = .pointer (some ⟨b, 0, none⟩) := by simpa using ha
  simp [results, hr, ha', asAddr, run_loadVar_mid w b 0 t cs d hc hu hd hi]
theorem results_three {fn : Func} {a t r s : Nat} {tmps : Array Value} {w : World} (hr : fn.results = #[.cell a t, .tmp r, .tmp s]) (b : Nat) (cs : List Value) (d : TypeDesc) (ha : tmps.getD a undef = .pointer (some ⟨b, 0, none⟩)) (hc : w.rangeAt b 0 cs)
    (hu : P.underlying t = some d) (hd : d.isRow = true) (hi : (P.info? t).map (·.size) = some cs.length) (v1 v2 : Value) (h1 : tmps.getD r undef = v1) (h2 : tmps.getD s undef = v2) : (results fn tmps).run P w = .ok (.tuple #[.agg cs.toArray, v1, v2]) w := by
  have ha' : tmps[a]?.getD undef = .pointer (some ⟨b, 0, none⟩) := by simpa using ha
  have h1' : tmps[r]?.getD undef = v1 := by simpa using h1
  have h2' : tmps[s]?.getD undef = v2 := by simpa using h2
  simp [results, hr, ha', asAddr, run_loadVar_mid w b 0 t cs d hc hu hd hi, h1', h2']
end

/-! ### Ranges -/
theorem set_other {w : World} {a b : Addr} (v : Value) (h : a ≠ b) : (w.setCell a v).cell? b = w.cell? b := by
  first
    | exact World.cell?_setCell_other w v h
    | exact World.cell?_setCell_other w a b v h
    | exact World.cell?_setCell_other w a v h
    | exact World.cell?_setCell_other _ _ _ h
theorem rangeAt_new (w : World) (cs : List Value) (t : TypeId) : (w.alloc (.cells cs.toArray t)).rangeAt w.heap.size 0 cs := fun j v hj => by
  rw [Nat.zero_add, World.cell?_alloc_new]
  simpa using hj
theorem there_new (w : World) (cs : List Value) (t : TypeId) : (w.alloc (.cells cs.toArray t)).there w.heap.size 0 cs.length := fun j hj => by
  rw [Nat.zero_add]
  refine ⟨?_, by simp [go_sem]⟩
  rw [World.cell?_alloc_new]
  simp [hj]
theorem rangeAt_set {w : World} {b : Nat} {cs : List Value} (h : w.rangeAt b 0 cs) (i : Nat) (v : Value) : (w.setCell ⟨b, i, none⟩ v).rangeAt b 0 (cs.set i v) := fun j u hj => by
  rw [List.getElem?_set] at hj
  rw [Nat.zero_add]
  by_cases e : i = j
  · subst e
    rw [if_pos rfl] at hj
    split at hj
    · rename_i hl
      cases hj
      have h1 := h i _ (List.getElem?_eq_getElem hl)
      rw [Nat.zero_add] at h1
      exact World.cell?_setCell_same' w _ v (by rw [h1]; rfl)
    · cases hj
  · rw [if_neg e] at hj
    rw [set_other v (by intro h2; cases h2; exact e rfl)]
    have := h j u hj
    rwa [Nat.zero_add] at this
theorem there_set {w : World} {b n : Nat} (h : w.there b 0 n) (p : Addr) (v : Value) : (w.setCell p v).there b 0 n := fun j hj => by
  obtain ⟨h1, h2⟩ := h j hj
  exact ⟨by rw [isSome_setCell]; exact h1, by rw [World.frozen?_setCell]; exact h2⟩
theorem rangeAt_block {w w' : World} {b o : Nat} {cs : List Value} (h : w.rangeAt b o cs) (hb : w'.heap[b]? = w.heap[b]?) : w'.rangeAt b o cs := fun j v hj => (World.cell?_of_block hb).trans (h j v hj)
theorem there_block {w w' : World} {b o n : Nat} (h : w.there b o n) (hb : w'.heap[b]? = w.heap[b]?) : w'.there b o n := fun j hj => by
  obtain ⟨h1, h2⟩ := h j hj
  exact ⟨by rw [World.cell?_of_block (a := ⟨b, o + j, none⟩) hb]; exact h1, (World.frozen?_of_block (a := ⟨b, o + j, none⟩) hb).trans h2⟩
theorem below_setCells {B : Nat} {a : World} {b : Nat} (hb : B ≤ b) : ∀ (vs : List Value) (o : Nat) {w : World}, Below B a w → Below B a (w.setCells b o vs)
  | [], _, _, h => h
  | v :: vs, o, w, h => below_setCells hb vs (o + 1) (h.setCell (p := ⟨b, o, none⟩) hb v)
end Go.Proofs.Ytfggcmbainhglaa
namespace Go.Proofs.Ytfggcmbainhglaa
open Go.RowKit

theorem make_row {P : Program} {t e : TypeId} {i : TypeInfo} {z : Value} (ht : P.underlying t = some (.slice e)) (hi : P.info? e = some i) (hz : i.zero = some z) (hs : i.size = 1) (hzc : z.cells = #[z]) (n : Nat) (m : Int) (hm : m = (n : Int)) (hby : i.bytes * n ≤ 281474976710656) (h63 : n ≤ 9223372036854775807) (W : World) :
    (Instr.makeSlice t (.int .i64 m) (.int .i64 m)).run P W = .ok (.slice (some ⟨W.heap.size, 0, none⟩) n n) (W.alloc (.cells (List.replicate n z).toArray e)) := by
  subst hm
  have hb : (i.bytes : Int) * (n : Int) ≤ 281474976710656 := by
    have h : ((i.bytes * n : Nat) : Int) ≤ 281474976710656 := by omega
    rwa [Int.natCast_mul] at h
  have h := run_make (P := P) W t e i z ht hi hz .i64 .i64 (n : Int) (n : Int) (by omega) (Int.le_refl _) hb (by omega)
  simp only [Int.toNat_natCast, hs, Nat.mul_one, hzc] at h
  rw [h, ← toList_madeCells_one, Array.toArray_toList]
end Go.Proofs.Ytfggcmbainhglaa
namespace Go.Proofs.Ytfggcmbainhglaa
open Go.RowKit
set_option linter.unusedSimpArgs false

def hl.posTo (counts : List Int) (k : Nat) : List Nat := (List.range k).filter fun s => decide (0 < counts.getD s 0)
theorem hl.posTo_succ (counts : List Int) (k : Nat) : hl.posTo counts (k + 1) = hl.posTo counts k ++ if 0 < counts.getD k 0 then [k] else [] := by
  unfold hl.posTo
  rw [List.range_succ, List.filter_append]
  congr 1
  by_cases h : 0 < counts.getD k 0
  · rw [if_pos h, List.filter_cons, if_pos (by simpa using h)]
    rfl
  · rw [if_neg h, List.filter_cons, if_neg (by simpa using h)]
    rfl
def hl.leafs (counts : List Int) (l : List Nat) : List hl.T := l.map fun s => hl.T.leaf (counts.getD s 0) s
/-- the least cost that a code may have -/
def hl.best (counts : List Int) : Int := match hl.pos counts with
  | [s] => counts.getD s 0
  | l => hl.hc (l.map fun s => counts.getD s 0)
theorem hl.best_one {counts : List Int} {s : Nat} (h : hl.pos counts = [s]) : hl.best counts = counts.getD s 0 := by unfold hl.best; rw [h]
theorem hl.best_not {counts : List Int} (h : (hl.pos counts).length ≠ 1) : hl.best counts = hl.hc ((hl.pos counts).map fun s => counts.getD s 0) := by
  unfold hl.best
  split
  · next s e => rw [e] at h; exact absurd rfl h
  · rfl
/-- what Lengths answers -/
def LenPost (counts : List Int) (w : World) (e : Ending) (w' : World) : Prop :=
  Below w.heap.size w w' ∧ if hl.fault counts ≠ 0 then e = .returned (.tuple #[.slice none 0 0, .int .i64 (hl.fault counts)]) else
    ∃ g out, e = .returned (.tuple #[.slice (some ⟨g, 0, none⟩) counts.length counts.length, .int .i64 0]) ∧ hl.Good counts out (hl.best counts) ∧ Own w' w.heap.size 3 1 (some ⟨g, 0, none⟩) counts.length counts.length (ho.iv out)
theorem ho.ini_spec (gs : List (Nat × hl.T)) : hp.Hp ho.ek ho.ez (ho.ini gs (gs.length / 2) gs) gs.length 0 ∧ (ho.ini gs (gs.length / 2) gs).Perm gs :=
  hp.init_spec ho.ek ho.ez gs (gs.length / 2) gs rfl (fun k h0 hk hlo => by omega)
theorem FAt.pushed {w wa w6 : World} {B Fb : Nat} {A A6 : Option Addr} {c c6 : Nat} {fs : List (Nat × hl.T)} {p : Nat} {t : hl.T} (h : FAt w B Fb A c fs) (hb : Below w.heap.size w wa) (hg : Grew wa w6 A A6) (ho_ : Own w6 B 47 1 A6 (fs.length + 1) c6 (fs.map ho.ec ++ [.pointer (some ⟨p, 0, none⟩)])) (ht : TAt wa p t) :
    FAt (w6.setCell ⟨Fb, 0, none⟩ (.slice A6 (fs.length + 1) c6)) B Fb A6 c6 (fs ++ [(p, t)]) ∧ Stays w (w6.setCell ⟨Fb, 0, none⟩ (.slice A6 (fs.length + 1) c6)) (fun k => k = Fb ∨ blkOf A = some k) := by
  have ha := h.next hb
  have hst6 : Stays wa w6 (fun q => blkOf A = some q) := Stays.grew hg
  have hb6 := ha.box.stays hst6 ha.far
  have hs6 : Stays wa (w6.setCell ⟨Fb, 0, none⟩ (.slice A6 (fs.length + 1) c6)) (fun k => k = Fb ∨ blkOf A = some k) := (hst6.mono fun _ _ e => .inr e).comp ((Stays.set _ _ _ _).mono fun _ _ e => .inl e)
  have hln : (fs ++ [(p, t)]).length = fs.length + 1 := by rw [List.length_append]; rfl
  refine ⟨⟨h.lo, ?_, ⟨?_, fun x hx => ?_⟩⟩, (Stays.of_below hb _).comp hs6⟩
  · rw [hln]
    simpa using hb6.set 0 (.slice A6 (fs.length + 1) c6)
  · rw [hln, List.map_append]
    exact ho_.setCell (hb6.apart ho_ rowNeBox) _
  · have key : ∀ k cs, BlkA wa k 50 cs → ¬ (k = Fb ∨ blkOf A = some k) := fun k cs hb2 e => by
      rcases e with e | e
      · exact hb2.two ha.box treeNeBox e
      · exact hb2.apart ha.rt.row treeNeRow e
    rcases List.mem_append.1 hx with hx | hx
    · exact (ha.rt.tr x hx).stays hs6 key
    · rw [List.mem_singleton] at hx
      subst hx
      exact ht.stays hs6 key
theorem Own.out {w w' : World} {B Og n c : Nat} {xs : List Value} {B2 Fb : Nat} {A : Option Addr} {c2 : Nat} {fs : List (Nat × hl.T)} (h : Own w B 3 1 (Option.some ⟨Og, 0, none⟩) n c xs) (hf : FAt w B2 Fb A c2 fs) (hne : Og ≠ Fb) (hs : Stays w w' (fun k => k = Fb ∨ blkOf A = Option.some k)) : Own w' B 3 1 (Option.some ⟨Og, 0, none⟩) n c xs :=
  h.stays hs fun k hk e => by
    have hk' : Og = k := by simpa [blkOf] using hk
    subst hk'
    rcases e with e | e
    · exact hne e
    · rcases Own.two h hf.rt.row (by decide) with h1 | h1
      · cases h1
      · exact h1 (by rw [e]; rfl)
theorem intNeTreeP : 3 ≠ 47 := by decide
theorem intNeForest : 3 ≠ 46 := by decide
set_option maxRecDepth 100000 in
set_option maxHeartbeats 2000000 in
theorem huff_Lengths (counts : List Int) (A0 : Option Addr) (c0 : Nat) (w : World) (h0 : SlRep Rep.int w (· < w.heap.size) counts A0 c0) (hn : counts.length ≤ 9223372036854775807) :
    Calls Try.prog 5 #[.slice A0 counts.length c0] w (LenPost counts w) := by
  have HL := Lib.hid h0
  have HCF := Lib.hid (huff_ContainsFunc counts A0 c0 _ w h0 hn)
  by_cases h64 : 64 < counts.length
  · have HE : Hid (hl.fault counts = 1) := Lib.hid (by unfold hl.fault; rw [if_pos h64])
    have h64' : (64 : Int) < (counts.length : Int) := by omega
    have HFIN : Hid (∀ w', Below w.heap.size w w' → LenPost counts w (.returned (.tuple #[.slice none 0 0, .int .i64 1])) w') := Lib.hid (fun w' hb => ⟨hb, by rw [HE.out, if_pos (by decide)]⟩)
    clear h0
    go_enter Try.func5, Try.ntmps5
    go_wp2
    go_ret2
    exact HFIN.out _ (by repeat (first | (with_reducible exact Below.refl _ _) | (with_reducible assumption) | (with_reducible refine bset ?_ ?_ _) | (with_reducible refine balloc ?_ _) | (with_reducible refine Below.drew ?_) | (with_reducible refine bdrewN ?_ _) | (with_reducible refine bnext ?_ (by with_reducible assumption)) | exact Nat.le_refl _ | (simp; done) | omega | (simp; omega)))
  have h64' : ¬ (64 : Int) < (counts.length : Int) := by omega
  cases hbd : hl.bad counts with
  | true =>
    have HE : Hid (hl.fault counts = 2) := Lib.hid (by unfold hl.fault; rw [if_neg h64, if_pos hbd])
    have HFIN : Hid (∀ w', Below w.heap.size w w' → LenPost counts w (.returned (.tuple #[.slice none 0 0, .int .i64 2])) w') := Lib.hid (fun w' hb => ⟨hb, by rw [HE.out, if_pos (by decide)]⟩)
    rw [hbd] at HCF
    clear h0 hbd
    go_enter Try.func5, Try.ntmps5
    go_wp2_with (first
      | (go_at_call 16; ((with_reducible refine HCF.out.mono ?_); rintro e _ ⟨rfl, rfl⟩))
      | fail)
    go_ret2
    exact HFIN.out _ (by repeat (first | (with_reducible exact Below.refl _ _) | (with_reducible assumption) | (with_reducible refine bset ?_ ?_ _) | (with_reducible refine balloc ?_ _) | (with_reducible refine Below.drew ?_) | (with_reducible refine bdrewN ?_ _) | (with_reducible refine bnext ?_ (by with_reducible assumption)) | exact Nat.le_refl _ | (simp; done) | omega | (simp; omega)))
  | false =>
    have HE : Hid (hl.fault counts = 0) := Lib.hid (by unfold hl.fault; rw [if_neg h64, hbd]; rfl)
    have HR := Lib.hid (fun n hn => (hl.bad_not hbd n hn).2)
    have HR0 := Lib.hid (fun n hn => (hl.bad_not hbd n hn).1)
    have HFIN : Hid (∀ w' g out, Below w.heap.size w w' → hl.Good counts out (hl.best counts) → Own w' w.heap.size 3 1 (some ⟨g, 0, none⟩) counts.length counts.length (ho.iv out) → LenPost counts w (.returned (.tuple #[.slice (some ⟨g, 0, none⟩) counts.length counts.length, .int .i64 0])) w') := Lib.hid (fun w' g out hb hg ho_ => ⟨hb, by rw [HE.out, if_neg (by decide)]; exact ⟨g, out, rfl, hg, ho_⟩⟩)
    rw [hbd] at HCF
    obtain ⟨N, hN⟩ : ∃ N, counts.length = N := ⟨_, rfl⟩
    have hn64 : N ≤ 64 := by omega
    have HN := Lib.hid hN
    have hmk := make_row (P := Try.prog) (i := Try.t3) (z := .int .i64 0) Try.underlying22 (by kernel_rfl) (by kernel_rfl) rfl rfl N (N : Int) rfl (by show 8 * _ ≤ _; omega) (by omega)
    rw [hN] at HCF HFIN h64' ⊢
    clear h0 hbd hn h64
    go_enter Try.func5, Try.ntmps5
    go_upto_region 7 with (first
      | (go_at_call 16; ((with_reducible refine HCF.out.mono ?_); rintro e _ ⟨rfl, rfl⟩))
      | fail)
    generalize hw2 : World.alloc (World.alloc w _) _ = w2
    have hb2 : Below w.heap.size w w2 := by rw [← hw2]; exact balloc (balloc (bself w) _) _
    have HO2 : Hid (Own w2 w.heap.size 3 1 (some ⟨w.heap.size, 0, none⟩) N N (ho.iv (List.replicate N 0))) := Lib.hid (by
      have h := (Own.lit w w.heap.size 3 1 N (List.replicate N (.int .i64 0)) (Nat.le_refl _) (by simp) (by unfold maxLen; omega)).alloc (.cells #[.slice none 0 0] 46)
      rw [List.toArray_replicate] at h
      rw [← hw2]
      unfold ho.iv
      rw [List.map_replicate]
      exact h)
    have HF2 : Hid (FAt w2 w.heap.size (w.heap.size + 1) none 0 []) := Lib.hid (by
      refine ⟨by omega, ?_, ⟨Own.nil _ _ _ _, fun x hx => by cases hx⟩⟩
      rw [← hw2]
      have h := BlkA.new (w.alloc (.cells (Array.replicate N (.int .i64 0)) 3)) 46 #[.slice none 0 0]
      rw [World.size_alloc] at h
      exact h)
    have HB2 := Lib.hid hb2
    clear hw2 hb2 hmk
    have HP : Hid (∀ k, k < N → (counts.getD k 0 ≤ 1048576 ∧ 0 ≤ counts.getD k 0)) := Lib.hid (fun k hk => by
      have hm : counts.getD k 0 ∈ counts := by rw [List.getD_eq_getElem?_getD, List.getElem?_eq_getElem (by omega)]; exact List.getElem_mem _
      exact ⟨HR.out _ hm, HR0.out _ hm⟩)
    go_wp2
    go_loopw [24] (fun i wr => ∃ (k : Nat) (A : Option Addr) (c : Nat) (gs : List (Nat × hl.T)), k ≤ N ∧ i = .int .i64 (k : Int) ∧ Hid (gs.map Prod.snd = hl.leafs counts (hl.posTo counts k) ∧ gs.length ≤ k ∧ FAt wr w.heap.size (w.heap.size + 1) A c gs ∧ Own wr w.heap.size 3 1 (some ⟨w.heap.size, 0, none⟩) N N (ho.iv (List.replicate N 0)) ∧ Below w.heap.size w wr)) (fun i _ => N - (intOf i).toNat)
    case atStart => exact ⟨0, none, 0, [], by omega, rfl, Lib.hid ⟨rfl, Nat.le_refl _, HF2.out, HO2.out, HB2.out⟩⟩
    case round =>
      obtain ⟨k, A, c, gs, hk, rfl, HK⟩ := hrel
      rename World => wr
      obtain ⟨k1, k2, k3, k4, k5⟩ := HK.out
      by_cases hlt : k < N
      · obtain ⟨bA, oA, rfl, hbA, hc1⟩ := int_at (HL.out.below k5) (by omega : k < counts.length)
        have hlt' : (k : Int) < (N : Int) := by omega
        have hbr : bA < wr.heap.size := Nat.lt_of_lt_of_le hbA k5.size
        have hpk := HP.out k hlt
        by_cases hpos : 0 < counts.getD k 0
        · have HPT : Hid (hl.leafs counts (hl.posTo counts (k + 1)) = hl.leafs counts (hl.posTo counts k) ++ [.leaf (counts.getD k 0) k]) := Lib.hid (by
            rw [hl.posTo_succ, if_pos hpos]
            unfold hl.leafs
            rw [List.map_append]
            rfl)
          have f0 := k3.box.get 0
          have ff := k3.box.frozen 0
          have lF := k3.box.lt
          simp only [List.getElem?_toArray, List.getElem?_cons_zero] at f0
          have K1 := Lib.hid k1
          have K2 := Lib.hid k2
          have K3 := Lib.hid k3
          have K4 := Lib.hid k4
          have K5 := Lib.hid k5
          generalize counts.getD k 0 = y at *
          clear k1 k2 k3 k4 k5 HK
          go_wp2_with (first
            | (at_builtin; refine wp_app _ rfl _ _ _ rfl elemTree w.heap.size A gs.length c _ rfl (K3.out.rt.row.next (by exact (by repeat (first | (with_reducible exact Below.refl _ _) | (with_reducible assumption) | (with_reducible refine bset ?_ ?_ _) | (with_reducible refine balloc ?_ _) | (with_reducible refine Below.drew ?_) | (with_reducible refine bdrewN ?_ _) | (with_reducible refine bnext ?_ (by with_reducible assumption)) | exact Nat.le_refl _ | (simp; done) | omega | (simp; omega))))) _ 1 1 [.pointer (some ⟨wr.heap.size, 0, none⟩)] rfl rfl (Cells.newAt _ _ _ (by simp)) (by simp [Value.oneCell']) (by have := K2.out; omega) (by have := K2.out; unfold maxLen; omega) (Nat.le_trans K5.out.size (by simp; omega)) ?_; intro A6 c6 w6 hO6 hg6; have hst6 : Stays wr w6 (fun q => blkOf A = some q) := (Stays.of_below (by exact (by repeat (first | (with_reducible exact Below.refl _ _) | (with_reducible assumption) | (with_reducible refine bset ?_ ?_ _) | (with_reducible refine balloc ?_ _) | (with_reducible refine Below.drew ?_) | (with_reducible refine bdrewN ?_ _) | (with_reducible refine bnext ?_ (by with_reducible assumption)) | exact Nat.le_refl _ | (simp; done) | omega | (simp; omega)))) _).comp (Stays.grew hg6); have b6 := K3.out.box.stays hst6 K3.out.far; have f6 := b6.get 0; have ff6 := b6.frozen 0; have l6 := b6.lt; have HX6 := Lib.hid (K3.out.pushed (t := .leaf y k) (by exact (by repeat (first | (with_reducible exact Below.refl _ _) | (with_reducible assumption) | (with_reducible refine bset ?_ ?_ _) | (with_reducible refine balloc ?_ _) | (with_reducible refine Below.drew ?_) | (with_reducible refine bdrewN ?_ _) | (with_reducible refine bnext ?_ (by with_reducible assumption)) | exact Nat.le_refl _ | (simp; done) | omega | (simp; omega)))) hg6 hO6 ((BlkA.new wr _ _).alloc _)); clear hO6 hg6 hst6 b6)
            | fail)
          go_roundw
          case rel =>
            refine ⟨k + 1, A6, c6, gs ++ [(wr.heap.size, .leaf y k)], by omega, by go_num, Lib.hid ⟨?_, by rw [List.length_append]; have := K2.out; simp only [List.length_cons, List.length_nil]; omega, HX6.out.1, K4.out.out K3.out (by omega) HX6.out.2, K5.out.trans (HX6.out.2.below K5.out.size (fun q hq => ?_))⟩⟩
            · rw [List.map_append, K1.out, HPT.out]
              rfl
            · rcases hq with e | e
              · omega
              · exact (K3.out.rt.row.lt q e).1
          case measure => simp [intOf]; omega
        · have HPT : Hid (hl.leafs counts (hl.posTo counts (k + 1)) = hl.leafs counts (hl.posTo counts k)) := Lib.hid (by rw [hl.posTo_succ, if_neg hpos, List.append_nil])
          have HK2 := Lib.hid (And.intro (HPT.out ▸ k1 : gs.map Prod.snd = hl.leafs counts (hl.posTo counts (k + 1))) (And.intro (Nat.le_succ_of_le k2) (And.intro k3 (And.intro k4 k5))))
          generalize counts.getD k 0 = y at *
          clear k1 k2 k3 k4 k5 HK
          go_wp2
          go_roundw
          case rel => exact ⟨k + 1, A, c, gs, by omega, by go_num, HK2⟩
          case measure => simp [intOf]; omega
      · obtain rfl : k = N := by omega
        have hps : hl.posTo counts k = hl.pos counts := by rw [← HN.out]; rfl
        rw [hps] at k1
        have hlen1 : gs.length = (hl.pos counts).length := by have := congrArg List.length k1; simpa [hl.leafs] using this
        have f0 := k3.box.get 0
        have lF := k3.box.lt
        simp only [List.getElem?_toArray, List.getElem?_cons_zero] at f0
        by_cases h1 : gs.length = 1
        · obtain ⟨s, hs⟩ : ∃ s, hl.pos counts = [s] := List.length_eq_one_iff.1 (by omega)
          obtain ⟨x, rfl⟩ : ∃ x, gs = [x] := List.length_eq_one_iff.1 h1
          obtain ⟨p, t⟩ := x
          have hx : t = .leaf (counts.getD s 0) s := by rw [hs] at k1; simpa [hl.leafs] using k1
          subst hx
          have ht : TAt wr p (.leaf (counts.getD s 0) s) := k3.rt.tr (p, .leaf (counts.getD s 0) s) (by simp)
          obtain ⟨g, rfl, _, lg, a0⟩ := k3.rt.at_ (i := 0) (by simp)
          have td := BlkA.get ht
          have lt := BlkA.lt ht
          have hsk : s < k := by have := (hl.mem_pos.1 (by rw [hs]; simp : s ∈ hl.pos counts)).1; have := HN.out; omega
          obtain ⟨_, e9, _, lo9, od⟩ := k4.cell (j := s) (u := .int .i64 0) (by unfold ho.iv; rw [List.map_replicate, List.getElem?_replicate, if_pos hsk])
          simp only [Option.some.injEq, Addr.mk.injEq, and_true] at e9
          subst e9
          have of := k4.frozenAt s
          have hs' : (s : Int) < (k : Int) := by omega
          have HFI : Hid (LenPost counts w (.returned (.tuple #[.slice (some ⟨w.heap.size, 0, none⟩) k k, .int .i64 0])) (wr.setCell ⟨w.heap.size, s, none⟩ (.int .i64 1))) := Lib.hid (HFIN.out _ _ ((List.replicate k 0).set s 1) (bset k5 (Nat.le_refl _) _) (by
            have hg := hl.good_one hs (by omega)
            rw [hl.best_one hs]
            rw [HN.out] at hg
            exact hg) (by rw [← ho.iv_set]; exact k4.setAt _))
          simp only [List.getD_cons_zero] at a0
          clear k1 k3 k4 k5 HK ht h1 hlen1 hps
          generalize counts.getD s 0 = y at *
          go_wp2
          go_ret2
          exact HFI.out
        · have h1' : ((gs.length : Int) == 1) = false := by simp; omega
          have h1'' : ¬ (gs.length : Int) = 1 := by omega
          have hstF : hl.FI counts (gs.map Prod.snd) := by
            rw [k1]
            exact hl.FI.start counts
          have hlow := ho.low_of hstF (by omega) HR.out
          have hini := ho.ini_spec gs
          have hil : (ho.ini gs (gs.length / 2) gs).length = gs.length := hini.2.length_eq
          have hst : ho.St counts (ho.ini gs (gs.length / 2) gs) := ⟨by rw [hil]; exact hini.1, hstF.perm (hini.2.map Prod.snd), fun e => by omega⟩
          have HBE : Hid (hl.best counts = hl.hc ((hl.pos counts).map fun s => counts.getD s 0)) := Lib.hid (hl.best_not (by omega))
          have HIN := Lib.hid (heap_Init w.heap.size (w.heap.size + 1) A c gs wr k3 hlow (by omega))
          have HST := Lib.hid hst
          have K3 := Lib.hid k3
          have K4 := Lib.hid k4
          have K5 := Lib.hid k5
          generalize ho.ini gs (gs.length / 2) gs = gi at *
          clear k1 k3 k4 k5 HK hps hlen1 h1 hstF hlow hini hil hst
          go_wp2_with (first
            | (go_at_call 18; ((with_reducible refine HIN.out.mono ?_); rintro e w4 ⟨rfl, h4, s4⟩; have H4 := Lib.hid h4; have S4 := Lib.hid s4; clear h4 s4))
            | fail)
          have H0 : Hid (ho.St counts gi ∧ FAt w4 w.heap.size (w.heap.size + 1) A c gi ∧ Own w4 w.heap.size 3 1 (some ⟨w.heap.size, 0, none⟩) k k (ho.iv (List.replicate k 0)) ∧ Below w.heap.size w w4) := Lib.hid ⟨HST.out, H4.out, K4.out.out K3.out (by omega) (S4.out.mono fun _ _ e => .inr e), K5.out.trans (S4.out.below K5.out.size (fun q hq => (K3.out.rt.row.lt q hq).1))⟩
          go_loopw [8] (fun _ wr => ∃ (A : Option Addr) (c : Nat) (gs : List (Nat × hl.T)), Hid (ho.St counts gs ∧ FAt wr w.heap.size (w.heap.size + 1) A c gs ∧ Own wr w.heap.size 3 1 (some ⟨w.heap.size, 0, none⟩) k k (ho.iv (List.replicate k 0)) ∧ Below w.heap.size w wr)) (fun _ wr => match wr.cell? ⟨w.heap.size + 1, 0, none⟩ with | some (.slice _ n _) => n | _ => 0)
          case atStart => exact ⟨A, c, gi, H0⟩
          case round =>
            obtain ⟨A, c, gs, HK⟩ := hrel
            rename World => wr
            obtain ⟨k0, k3, k4, k5⟩ := HK.out
            have hgl := ho.len_of k0.fi (by omega)
            have f0 := k3.box.get 0
            have lF := k3.box.lt
            simp only [List.getElem?_toArray, List.getElem?_cons_zero] at f0
            by_cases h2 : 2 ≤ gs.length
            · have h2' : (1 : Int) < (gs.length : Int) := by omega
              obtain ⟨g1, g2, a, b, HRD⟩ := ho.round (by omega) HR.out h2 k0
              have HR1 := Lib.hid HRD
              have hl1 := HRD.l1
              have hl2 := HRD.l2
              have HP1 : Hid (∀ wx, Below wr.heap.size wr wx → Calls Try.prog 19 #[.iface 52 (.pointer (some ⟨w.heap.size + 1, 0, none⟩))] wx fun e w' => e = .returned (.iface 47 (.pointer (some ⟨a.1, 0, none⟩))) ∧ FAt w' w.heap.size (w.heap.size + 1) A c g1 ∧ Stays wx w' (fun k => k = w.heap.size + 1 ∨ blkOf A = some k)) := Lib.hid (fun wx hb => by
                have h9 := heap_Pop w.heap.size (w.heap.size + 1) A c gs wx (k3.next hb) (by omega) (ho.low_of k0.fi (by omega) HR.out) (by omega)
                rw [← HRD.e1, ← HRD.ea] at h9
                exact h9)
              have HP2 : Hid (∀ wx, FAt wx w.heap.size (w.heap.size + 1) A c g1 → Calls Try.prog 19 #[.iface 52 (.pointer (some ⟨w.heap.size + 1, 0, none⟩))] wx fun e w' => e = .returned (.iface 47 (.pointer (some ⟨b.1, 0, none⟩))) ∧ FAt w' w.heap.size (w.heap.size + 1) A c g2 ∧ Stays wx w' (fun k => k = w.heap.size + 1 ∨ blkOf A = some k)) := Lib.hid (fun wx hb => by
                have h9 := heap_Pop w.heap.size (w.heap.size + 1) A c g1 wx hb (by omega) HRD.low1 (by omega)
                rw [← HRD.e2, ← HRD.eb] at h9
                exact h9)
              have HPU : Hid (∀ wx p, FAt wx w.heap.size (w.heap.size + 1) A c g2 → TAt wx p (hl.join a.1 a.2 b.1 b.2) → Calls Try.prog 20 #[.iface 52 (.pointer (some ⟨w.heap.size + 1, 0, none⟩)), .iface 47 (.pointer (some ⟨p, 0, none⟩))] wx fun e w' => e = .returned (.tuple #[]) ∧ ∃ A' c', FAt w' w.heap.size (w.heap.size + 1) A' c' (ho.psh g2 (p, hl.join a.1 a.2 b.1 b.2)) ∧ Stays wx w' (fun k => k = w.heap.size + 1 ∨ blkOf A = some k) ∧ ∀ k, blkOf A' = some k → blkOf A = some k ∨ wx.heap.size ≤ k) := Lib.hid (fun wx p h1 h2 => heap_Push w.heap.size (w.heap.size + 1) A c g2 p (hl.join a.1 a.2 b.1 b.2) wx h1 h2 (HRD.low2 p) (by omega))
              have HST1 : Hid (∀ p, ho.St counts (ho.psh g2 (p, hl.join a.1 a.2 b.1 b.2))) := Lib.hid HRD.st
              have HLN1 : Hid (∀ p, (ho.psh g2 (p, hl.join a.1 a.2 b.1 b.2)).length = gs.length - 1) := Lib.hid HRD.len
              have HTA : Hid (TAt wr a.1 a.2) := Lib.hid (k3.rt.tr a HRD.ma)
              have HMB : Hid (b ∈ g1) := Lib.hid HRD.mb
              have HKEY : Hid (∀ wx fs, FAt wx w.heap.size (w.heap.size + 1) A c fs → ∀ q cs, BlkA wx q 50 cs → ¬ (q = w.heap.size + 1 ∨ blkOf A = some q)) := Lib.hid (fun wx fs hf q cs hb e => by
                rcases e with e | e
                · exact hb.two hf.box treeNeBox e
                · exact hb.apart hf.rt.row treeNeRow e)
              have hca : hl.cnt a.2 ≤ 67108864 ∧ 0 ≤ hl.cnt a.2 := by
                have hm : a.2 ∈ gs.map Prod.snd := List.mem_map.2 ⟨a, HRD.ma, rfl⟩
                exact ⟨k0.fi.cnt_le (by omega) HR.out hm, by have := (k0.fi.wf _ hm).cnt1; omega⟩
              have hcb : hl.cnt b.2 ≤ 67108864 ∧ 0 ≤ hl.cnt b.2 := by
                have hm : b.2 ∈ gs.map Prod.snd := List.mem_map.2 ⟨b, HRD.sub HRD.mb, rfl⟩
                exact ⟨k0.fi.cnt_le (by omega) HR.out hm, by have := (k0.fi.wf _ hm).cnt1; omega⟩
              have hda := ho.low_of k0.fi (by omega) HR.out a HRD.ma
              have hdb := HRD.low1 b HRD.mb
              have K3 := Lib.hid k3
              have K4 := Lib.hid k4
              have K5 := Lib.hid k5
              have HJN : Hid (hl.join a.1 a.2 b.1 b.2 = .node (hl.cnt a.2 + hl.cnt b.2) a.1 a.2 b.1 b.2 (max (hl.dep a.2) (hl.dep b.2) + 1)) := Lib.hid rfl
              clear k0 k3 k4 k5 HK HRD HR1
              obtain ⟨pa, ta⟩ := a
              obtain ⟨pb, tb⟩ := b
              simp only at HP1 HP2 HPU HST1 HLN1 HTA hca hcb hda hdb HJN
              have hta := assert_tree pa
              have htb := assert_tree pb
              go_upto_region 18 with (fail)
              --<n18
              refine wp_region_tail [] (fun _ => True) (by kernel_rfl) (trivial) ?_
              intro hHeld
              refine wpAnyT_pure (i := 0) (v := ?_) rfl (by kernel_rfl) (by kernel_rfl) (by kernel_rfl) (fun _ _ _ h => h) (.inl ⟨by kernel_rfl, ?_⟩) (fun _ => hHeld) ?_ (by decide)
              rotate_left
              · intro w9; go_simp; try with_reducible rfl
              try simp only [Act.put, List.getElem_toArray, List.getElem_cons_succ, List.getElem_cons_zero, List.setIfInBounds_toArray, List.set_cons_zero, List.set_cons_succ]
              refine wpAnyT_pure (i := 3) (v := ?_) rfl (by kernel_rfl) (by kernel_rfl) (by kernel_rfl) (fun _ _ _ h => h) (.inl ⟨by kernel_rfl, ?_⟩) (fun _ => hHeld) ?_ (by decide)
              rotate_left
              · intro w9; go_simp; try with_reducible rfl
              try simp only [Act.put, List.getElem_toArray, List.getElem_cons_succ, List.getElem_cons_zero, List.setIfInBounds_toArray, List.set_cons_zero, List.set_cons_succ]
              refine wpAnyT_next (i := 1) (by kernel_rfl) rfl ?_
              intro K hK
              go_simp
              go_at_call 19
              refine (HP1.out _ (by exact (by repeat (first | (with_reducible exact Below.refl _ _) | (with_reducible assumption) | (with_reducible refine bset ?_ ?_ _) | (with_reducible refine balloc ?_ _) | (with_reducible refine Below.drew ?_) | (with_reducible refine bdrewN ?_ _) | (with_reducible refine bnext ?_ (by with_reducible assumption)) | exact Nat.le_refl _ | (simp; done) | omega | (simp; omega))))).mono ?_
              rintro e w4 ⟨rfl, h4, s4⟩
              have S4 : Hid (Stays wr w4 (fun k => k = w.heap.size + 1 ∨ blkOf A = some k)) := Lib.hid ((Stays.of_below (by exact (by repeat (first | (with_reducible exact Below.refl _ _) | (with_reducible assumption) | (with_reducible refine bset ?_ ?_ _) | (with_reducible refine balloc ?_ _) | (with_reducible refine Below.drew ?_) | (with_reducible refine bdrewN ?_ _) | (with_reducible refine bnext ?_ (by with_reducible assumption)) | exact Nat.le_refl _ | (simp; done) | omega | (simp; omega)))) _).comp s4)
              have H4 := Lib.hid h4
              clear h4 s4
              go_simp
              have hHeld2 := trivial
              refine hK.out _ _ (fun _ => hHeld2) ?_
              clear hK K hHeld
              have hHeld := hHeld2
              clear hHeld2
              try simp only [Act.put, List.getElem_toArray, List.getElem_cons_succ, List.getElem_cons_zero, List.setIfInBounds_toArray, List.set_cons_zero, List.set_cons_succ]
              refine wpAnyT_pure (i := 2) (v := ?_) rfl (by kernel_rfl) (by kernel_rfl) (by kernel_rfl) (fun _ _ _ h => h) (.inl ⟨by kernel_rfl, ?_⟩) (fun _ => hHeld) ?_ (by decide)
              rotate_left
              · intro w9; go_simp; try with_reducible rfl
              try simp only [Act.put, List.getElem_toArray, List.getElem_cons_succ, List.getElem_cons_zero, List.setIfInBounds_toArray, List.set_cons_zero, List.set_cons_succ]
              refine wpAnyT_next (i := 4) (by kernel_rfl) rfl ?_
              intro K hK
              go_simp
              go_at_call 19
              refine (HP2.out _ H4.out).mono ?_
              rintro e w5 ⟨rfl, h5, s5⟩
              have H5 := Lib.hid h5
              have S5 := Lib.hid s5
              clear h5 s5
              go_simp
              have hHeld2 := trivial
              refine hK.out _ _ (fun _ => hHeld2) ?_
              clear hK K hHeld
              have hHeld := hHeld2
              clear hHeld2
              try simp only [Act.put, List.getElem_toArray, List.getElem_cons_succ, List.getElem_cons_zero, List.setIfInBounds_toArray, List.set_cons_zero, List.set_cons_succ]
              refine wpAnyT_pure (i := 5) (v := ?_) rfl (by kernel_rfl) (by kernel_rfl) (by kernel_rfl) (fun _ _ _ h => h) (.inl ⟨by kernel_rfl, ?_⟩) (fun _ => hHeld) ?_ (by decide)
              rotate_left
              · intro w9; go_simp; try with_reducible rfl
              try simp only [Act.put, List.getElem_toArray, List.getElem_cons_succ, List.getElem_cons_zero, List.setIfInBounds_toArray, List.set_cons_zero, List.set_cons_succ]
              refine wpAnyT_pure (i := 6) (v := ?_) rfl (by kernel_rfl) (by kernel_rfl) (by kernel_rfl) (fun _ _ _ h => h) (.inl ⟨by kernel_rfl, ?_⟩) (fun _ => hHeld) ?_ (by decide)
              rotate_left
              · intro w9; go_simp; try with_reducible rfl
              try simp only [Act.put, List.getElem_toArray, List.getElem_cons_succ, List.getElem_cons_zero, List.setIfInBounds_toArray, List.set_cons_zero, List.set_cons_succ]
              refine wpAnyT_pure (i := 7) (v := ?_) rfl (by kernel_rfl) (by kernel_rfl) (by kernel_rfl) (fun _ _ _ h => h) (.inl ⟨by kernel_rfl, ?_⟩) (fun _ => hHeld) ?_ (by decide)
              rotate_left
              · intro w9; go_simp; try with_reducible rfl
              try simp only [Act.put, List.getElem_toArray, List.getElem_cons_succ, List.getElem_cons_zero, List.setIfInBounds_toArray, List.set_cons_zero, List.set_cons_succ]
              refine wpAnyT_done (by kernel_rfl) ?_ _
              --n18>
              have TA5 : TAt w5 pa ta := (HTA.out.stays S4.out (HKEY.out wr gs K3.out)).stays S5.out (HKEY.out w4 g1 H4.out)
              have TB5 : TAt w5 pb tb := (H4.out.rt.tr _ HMB.out).stays S5.out (HKEY.out w4 g1 H4.out)
              obtain ⟨sa, qa, ra, xa⟩ := TA5.head
              obtain ⟨sb, qb, rb, xb⟩ := TB5.head
              obtain ⟨ca, hca9⟩ : ∃ ca, hl.cnt ta = ca := ⟨_, rfl⟩
              obtain ⟨cb, hcb9⟩ : ∃ cb, hl.cnt tb = cb := ⟨_, rfl⟩
              obtain ⟨d1, hd19⟩ : ∃ d1, hl.dep ta = d1 := ⟨_, rfl⟩
              obtain ⟨d2, hd29⟩ : ∃ d2, hl.dep tb = d2 := ⟨_, rfl⟩
              rw [hca9, hd19] at xa
              rw [hcb9, hd29] at xb
              rw [hca9] at hca
              rw [hcb9] at hcb
              rw [hd19] at hda
              rw [hd29] at hdb
              have HJ2 : Hid (hl.join pa ta pb tb = .node (ca + cb) pa ta pb tb (max d1 d2 + 1)) := Lib.hid (by rw [HJN.out, hca9, hcb9, hd19, hd29])
              have hwc : IntKind.i64.wrap (ca + cb) = ca + cb := IntWalk.i64_in _ (by omega)
              obtain ⟨dm, hdm⟩ : ∃ dm, (if d1 < d2 then d2 else d1) = dm := ⟨_, rfl⟩
              have hdx : max d1 d2 = dm := by rw [← hdm]; split <;> omega
              have HDX := Lib.hid hdx
              have hwd : IntKind.i64.wrap (dm + 1) = dm + 1 := IntWalk.i64_in _ (by omega)
              rw [hdx] at HJ2
              have XA := Lib.hid xa
              have XB := Lib.hid xb
              have HTN : Hid (∀ wx, Below (w5.alloc (.cells #[.int .i64 (ca + cb), .int .i64 0, .pointer (some ⟨pa, 0, none⟩), .pointer (some ⟨pb, 0, none⟩), .int .i64 (dm + 1)] 50)).heap.size (w5.alloc (.cells #[.int .i64 (ca + cb), .int .i64 0, .pointer (some ⟨pa, 0, none⟩), .pointer (some ⟨pb, 0, none⟩), .int .i64 (dm + 1)] 50)) wx → TAt wx w5.heap.size (hl.join pa ta pb tb)) := Lib.hid (fun wx hb => by
                rw [HJ2.out]
                have h5x : Below w5.heap.size w5 wx := bnext (balloc (bself w5) _) hb
                exact ⟨(BlkA.new w5 _ _).next hb, TA5.next h5x, TB5.next h5x⟩)
              have HSS : Hid (∀ wx, Below w5.heap.size w5 wx → wx.cell? ⟨pa, 0, none⟩ = some (.int .i64 ca) ∧ wx.cell? ⟨pb, 0, none⟩ = some (.int .i64 cb) ∧ wx.cell? ⟨pa, 4, none⟩ = some (.int .i64 d1) ∧ wx.cell? ⟨pb, 4, none⟩ = some (.int .i64 d2)) := Lib.hid (fun wx hb => ⟨(XA.out.next hb).get 0, (XB.out.next hb).get 0, (XA.out.next hb).get 4, (XB.out.next hb).get 4⟩)
              have HPU2 : Hid (∀ wx, Below (w5.alloc (.cells #[.int .i64 (ca + cb), .int .i64 0, .pointer (some ⟨pa, 0, none⟩), .pointer (some ⟨pb, 0, none⟩), .int .i64 (dm + 1)] 50)).heap.size (w5.alloc (.cells #[.int .i64 (ca + cb), .int .i64 0, .pointer (some ⟨pa, 0, none⟩), .pointer (some ⟨pb, 0, none⟩), .int .i64 (dm + 1)] 50)) wx → Calls Try.prog 20 #[.iface 52 (.pointer (some ⟨w.heap.size + 1, 0, none⟩)), .iface 47 (.pointer (some ⟨w5.heap.size, 0, none⟩))] wx fun e w' => e = .returned (.tuple #[]) ∧ ∃ A' c', FAt w' w.heap.size (w.heap.size + 1) A' c' (ho.psh g2 (w5.heap.size, hl.join pa ta pb tb)) ∧ Stays w5 w' (fun k => k = w.heap.size + 1 ∨ blkOf A = some k)) := Lib.hid (fun wx hb => (HPU.out wx w5.heap.size (H5.out.next (bnext (balloc (bself w5) _) hb)) (HTN.out wx hb)).mono (by
                rintro e w' ⟨rfl, A', c', h1, h2, _⟩
                exact ⟨rfl, A', c', h1, (Stays.of_below (bnext (balloc (bself w5) _) hb) _).comp h2⟩))
              have la5 := XA.out.lt
              have lb5 := XB.out.lt
              clear xa xb TA5 TB5 hca9 hcb9 hd19 hd29 HJN hta htb
              go_upto_region 19 with (fail)
              --<n19
              refine wp_region_tail [26] (fun wx => wx.cell? ⟨pa, 0, none⟩ = some (.int .i64 ca) ∧ wx.cell? ⟨pb, 0, none⟩ = some (.int .i64 cb) ∧ wx.cell? ⟨pa, 4, none⟩ = some (.int .i64 d1) ∧ wx.cell? ⟨pb, 4, none⟩ = some (.int .i64 d2)) (by kernel_rfl) (HSS.out w5 (bself _)) ?_
              intro hHeld
              refine wpAnyT_pure (i := 0) (v := ?_) rfl (by kernel_rfl) (by kernel_rfl) (by kernel_rfl) (fun _ _ _ h => h) (.inl ⟨by kernel_rfl, ?_⟩) (fun _ => hHeld) ?_ (by decide)
              rotate_left
              · intro w9; go_simp; try with_reducible rfl
              try simp only [Act.put, List.getElem_toArray, List.getElem_cons_succ, List.getElem_cons_zero, List.setIfInBounds_toArray, List.set_cons_zero, List.set_cons_succ]
              refine wpAnyT_pure (i := 1) (v := ?_) rfl (by kernel_rfl) (by kernel_rfl) (by kernel_rfl) (fun _ _ _ h => h) (.inl ⟨by kernel_rfl, ?_⟩) (fun _ => hHeld) ?_ (by decide)
              rotate_left
              · intro w9; go_simp; try with_reducible rfl
              try simp only [Act.put, List.getElem_toArray, List.getElem_cons_succ, List.getElem_cons_zero, List.setIfInBounds_toArray, List.set_cons_zero, List.set_cons_succ]
              refine wpAnyT_pure (i := 2) (v := ?_) rfl (by kernel_rfl) (by kernel_rfl) (by kernel_rfl) (fun _ _ _ h => h) (.inl ⟨by kernel_rfl, ?_⟩) (fun _ => hHeld) ?_ (by decide)
              rotate_left
              · intro w9; go_simp; try with_reducible rfl
              try simp only [Act.put, List.getElem_toArray, List.getElem_cons_succ, List.getElem_cons_zero, List.setIfInBounds_toArray, List.set_cons_zero, List.set_cons_succ]
              refine wpAnyT_pure (i := 3) (v := ?_) rfl (by kernel_rfl) (by kernel_rfl) (by kernel_rfl) (fun _ _ _ h => h) (.inl ⟨by kernel_rfl, ?_⟩) (fun _ => hHeld) ?_ (by decide)
              rotate_left
              · intro w9; go_simp; try with_reducible rfl
              try simp only [Act.put, List.getElem_toArray, List.getElem_cons_succ, List.getElem_cons_zero, List.setIfInBounds_toArray, List.set_cons_zero, List.set_cons_succ]
              refine wpAnyT_pure (i := 5) (v := ?_) rfl (by kernel_rfl) (by kernel_rfl) (by kernel_rfl) (fun _ _ _ h => h) (.inl ⟨by kernel_rfl, ?_⟩) (fun _ => hHeld) ?_ (by decide)
              rotate_left
              · intro w9; go_simp; try with_reducible rfl
              try simp only [Act.put, List.getElem_toArray, List.getElem_cons_succ, List.getElem_cons_zero, List.setIfInBounds_toArray, List.set_cons_zero, List.set_cons_succ]
              refine wpAnyT_pure (i := 6) (v := ?_) rfl (by kernel_rfl) (by kernel_rfl) (by kernel_rfl) (fun _ _ _ h => h) (.inl ⟨by kernel_rfl, ?_⟩) (fun _ => hHeld) ?_ (by decide)
              rotate_left
              · intro w9; go_simp; try with_reducible rfl
              try simp only [Act.put, List.getElem_toArray, List.getElem_cons_succ, List.getElem_cons_zero, List.setIfInBounds_toArray, List.set_cons_zero, List.set_cons_succ]
              refine wpAnyT_pure (i := 7) (v := ?_) rfl (by kernel_rfl) (by kernel_rfl) (by kernel_rfl) (fun _ _ _ h => h) (.inl ⟨by kernel_rfl, ?_⟩) (fun _ => hHeld) ?_ (by decide)
              rotate_left
              · intro w9; go_simp; try with_reducible rfl
              try simp only [Act.put, List.getElem_toArray, List.getElem_cons_succ, List.getElem_cons_zero, List.setIfInBounds_toArray, List.set_cons_zero, List.set_cons_succ]
              refine wpAnyT_pure (i := 10) (v := ?_) rfl (by kernel_rfl) (by kernel_rfl) (by kernel_rfl) (fun _ _ _ h => h) (.inl ⟨by kernel_rfl, ?_⟩) (fun _ => hHeld) ?_ (by decide)
              rotate_left
              · intro w9; go_simp; try with_reducible rfl
              try simp only [Act.put, List.getElem_toArray, List.getElem_cons_succ, List.getElem_cons_zero, List.setIfInBounds_toArray, List.set_cons_zero, List.set_cons_succ]
              refine wpAnyT_pure (i := 11) (v := ?_) rfl (by kernel_rfl) (by kernel_rfl) (by kernel_rfl) (fun _ _ _ h => h) (.inl ⟨by kernel_rfl, ?_⟩) (fun _ => hHeld) ?_ (by decide)
              rotate_left
              · intro w9; go_simp; try with_reducible rfl
              try simp only [Act.put, List.getElem_toArray, List.getElem_cons_succ, List.getElem_cons_zero, List.setIfInBounds_toArray, List.set_cons_zero, List.set_cons_succ]
              refine wpAnyT_pure (i := 12) (v := ?_) rfl (by kernel_rfl) (by kernel_rfl) (by kernel_rfl) (fun _ _ _ h => h) (.inl ⟨by kernel_rfl, ?_⟩) (fun _ => hHeld) ?_ (by decide)
              rotate_left
              · intro w9; go_simp; try with_reducible rfl
              try simp only [Act.put, List.getElem_toArray, List.getElem_cons_succ, List.getElem_cons_zero, List.setIfInBounds_toArray, List.set_cons_zero, List.set_cons_succ]
              refine wpAnyT_pure (i := 13) (v := ?_) rfl (by kernel_rfl) (by kernel_rfl) (by kernel_rfl) (fun _ _ _ h => h) (.inl ⟨by kernel_rfl, ?_⟩) (fun _ => hHeld) ?_ (by decide)
              rotate_left
              · intro w9; go_simp; try with_reducible rfl
              try simp only [Act.put, List.getElem_toArray, List.getElem_cons_succ, List.getElem_cons_zero, List.setIfInBounds_toArray, List.set_cons_zero, List.set_cons_succ]
              refine wpAnyT_pure (i := 14) (v := ?_) rfl (by kernel_rfl) (by kernel_rfl) (by kernel_rfl) (fun _ _ _ h => h) (.inl ⟨by kernel_rfl, ?_⟩) (fun _ => hHeld) ?_ (by decide)
              rotate_left
              · intro w9; go_simp; try with_reducible rfl
              try simp only [Act.put, List.getElem_toArray, List.getElem_cons_succ, List.getElem_cons_zero, List.setIfInBounds_toArray, List.set_cons_zero, List.set_cons_succ]
              refine wpAnyT_pure (i := 15) (v := ?_) rfl (by kernel_rfl) (by kernel_rfl) (by kernel_rfl) (fun _ _ _ h => h) (.inl ⟨by kernel_rfl, ?_⟩) (fun _ => hHeld) ?_ (by decide)
              rotate_left
              · intro w9; go_simp; try with_reducible rfl
              try simp only [Act.put, List.getElem_toArray, List.getElem_cons_succ, List.getElem_cons_zero, List.setIfInBounds_toArray, List.set_cons_zero, List.set_cons_succ]
              refine wpAnyT_pure (i := 17) (v := ?_) rfl (by kernel_rfl) (by kernel_rfl) (by kernel_rfl) (fun _ _ _ h => h) (.inl ⟨by kernel_rfl, ?_⟩) (fun _ => hHeld) ?_ (by decide)
              rotate_left
              · intro w9; go_simp; try with_reducible rfl
              try simp only [Act.put, List.getElem_toArray, List.getElem_cons_succ, List.getElem_cons_zero, List.setIfInBounds_toArray, List.set_cons_zero, List.set_cons_succ]
              refine wpAnyT_pure (i := 18) (v := ?_) rfl (by kernel_rfl) (by kernel_rfl) (by kernel_rfl) (fun _ _ _ h => h) (.inl ⟨by kernel_rfl, ?_⟩) (fun _ => hHeld) ?_ (by decide)
              rotate_left
              · intro w9; go_simp; try with_reducible rfl
              try simp only [Act.put, List.getElem_toArray, List.getElem_cons_succ, List.getElem_cons_zero, List.setIfInBounds_toArray, List.set_cons_zero, List.set_cons_succ]
              refine wpAnyT_pure (i := 19) (v := ?_) rfl (by kernel_rfl) (by kernel_rfl) (by kernel_rfl) (fun _ _ _ h => h) (.inl ⟨by kernel_rfl, ?_⟩) (fun _ => hHeld) ?_ (by decide)
              rotate_left
              · intro w9; go_simp; try with_reducible rfl
              try simp only [Act.put, List.getElem_toArray, List.getElem_cons_succ, List.getElem_cons_zero, List.setIfInBounds_toArray, List.set_cons_zero, List.set_cons_succ]
              refine wpAnyT_take (i := 4) [9, 23, 24, 25, 26] (v := ?_) rfl (by kernel_rfl) (by kernel_rfl) (by kernel_rfl) (by kernel_rfl) (fun _ _ _ h => h) (.inl ⟨by kernel_rfl, ?_⟩) hHeld ?_
              rotate_left
              · intro w9 hS9; (try dsimp only at hS9); obtain ⟨q1, q2, q3, q4⟩ := hS9; go_simp; try with_reducible rfl
              try simp only [Act.put, List.getElem_toArray, List.getElem_cons_succ, List.getElem_cons_zero, List.setIfInBounds_toArray, List.set_cons_zero, List.set_cons_succ]
              refine wpAnyT_take (i := 8) [9, 23, 24, 25, 26] (v := ?_) rfl (by kernel_rfl) (by kernel_rfl) (by kernel_rfl) (by kernel_rfl) (fun _ _ _ h => h) (.inl ⟨by kernel_rfl, ?_⟩) hHeld ?_
              rotate_left
              · intro w9 hS9; (try dsimp only at hS9); obtain ⟨q1, q2, q3, q4⟩ := hS9; go_simp; try with_reducible rfl
              try simp only [Act.put, List.getElem_toArray, List.getElem_cons_succ, List.getElem_cons_zero, List.setIfInBounds_toArray, List.set_cons_zero, List.set_cons_succ]
              refine wpAnyT_pure (i := 9) (v := ?_) rfl (by kernel_rfl) (by kernel_rfl) (by kernel_rfl) (fun _ _ _ h => h) (.inl ⟨by kernel_rfl, ?_⟩) (fun _ => hHeld) ?_ (by decide)
              rotate_left
              · intro w9; go_simp; try with_reducible rfl
              try simp only [Act.put, List.getElem_toArray, List.getElem_cons_succ, List.getElem_cons_zero, List.setIfInBounds_toArray, List.set_cons_zero, List.set_cons_succ]
              refine wpAnyT_take (i := 16) [21, 22, 23, 24, 25, 26] (v := ?_) rfl (by kernel_rfl) (by kernel_rfl) (by kernel_rfl) (by kernel_rfl) (fun _ _ _ h => h) (.inl ⟨by kernel_rfl, ?_⟩) hHeld ?_
              rotate_left
              · intro w9 hS9; (try dsimp only at hS9); obtain ⟨q1, q2, q3, q4⟩ := hS9; go_simp; try with_reducible rfl
              try simp only [Act.put, List.getElem_toArray, List.getElem_cons_succ, List.getElem_cons_zero, List.setIfInBounds_toArray, List.set_cons_zero, List.set_cons_succ]
              refine wpAnyT_take (i := 20) [21, 22, 23, 24, 25, 26] (v := ?_) rfl (by kernel_rfl) (by kernel_rfl) (by kernel_rfl) (by kernel_rfl) (fun _ _ _ h => h) (.inl ⟨by kernel_rfl, ?_⟩) hHeld ?_
              rotate_left
              · intro w9 hS9; (try dsimp only at hS9); obtain ⟨q1, q2, q3, q4⟩ := hS9; go_simp; try with_reducible rfl
              try simp only [Act.put, List.getElem_toArray, List.getElem_cons_succ, List.getElem_cons_zero, List.setIfInBounds_toArray, List.set_cons_zero, List.set_cons_succ]
              refine wpAnyT_pure (i := 21) (v := ?_) rfl (by kernel_rfl) (by kernel_rfl) (by kernel_rfl) (fun _ _ _ h => h) (.inl ⟨by kernel_rfl, ?_⟩) (fun _ => hHeld) ?_ (by decide)
              rotate_left
              · intro w9; go_simp; try with_reducible rfl
              try simp only [Act.put, List.getElem_toArray, List.getElem_cons_succ, List.getElem_cons_zero, List.setIfInBounds_toArray, List.set_cons_zero, List.set_cons_succ]
              refine wpAnyT_pure (i := 22) (v := ?_) rfl (by kernel_rfl) (by kernel_rfl) (by kernel_rfl) (fun _ _ _ h => h) (.inl ⟨by kernel_rfl, ?_⟩) (fun _ => hHeld) ?_ (by decide)
              rotate_left
              · intro w9; go_simp; try with_reducible rfl
              try simp only [Act.put, List.getElem_toArray, List.getElem_cons_succ, List.getElem_cons_zero, List.setIfInBounds_toArray, List.set_cons_zero, List.set_cons_succ]
              refine wpAnyT_pure (i := 23) (v := ?_) rfl (by kernel_rfl) (by kernel_rfl) (by kernel_rfl) (fun _ _ _ h => h) (.inl ⟨by kernel_rfl, ?_⟩) (fun _ => hHeld) ?_ (by decide)
              rotate_left
              · intro w9; go_simp; try with_reducible rfl
              try simp only [Act.put, List.getElem_toArray, List.getElem_cons_succ, List.getElem_cons_zero, List.setIfInBounds_toArray, List.set_cons_zero, List.set_cons_succ]
              refine wpAnyT_next (i := 24) (by kernel_rfl) rfl ?_
              intro K hK
              go_simp
              refine hK.out _ _ (fun _ => (HSS.out _ (by exact (by repeat (first | (with_reducible exact Below.refl _ _) | (with_reducible assumption) | (with_reducible refine bset ?_ ?_ _) | (with_reducible refine balloc ?_ _) | (with_reducible refine Below.drew ?_) | (with_reducible refine bdrewN ?_ _) | (with_reducible refine bnext ?_ (by with_reducible assumption)) | exact Nat.le_refl _ | (simp; done) | omega | (simp; omega)))))) ?_
              clear hK K
              try simp only [Act.put, List.getElem_toArray, List.getElem_cons_succ, List.getElem_cons_zero, List.setIfInBounds_toArray, List.set_cons_zero, List.set_cons_succ]
              refine wpAnyT_pure (i := 25) (v := ?_) rfl (by kernel_rfl) (by kernel_rfl) (by kernel_rfl) (fun _ _ _ h => h) (.inl ⟨by kernel_rfl, ?_⟩) (fun _ => (HSS.out _ (by exact (by repeat (first | (with_reducible exact Below.refl _ _) | (with_reducible assumption) | (with_reducible refine bset ?_ ?_ _) | (with_reducible refine balloc ?_ _) | (with_reducible refine Below.drew ?_) | (with_reducible refine bdrewN ?_ _) | (with_reducible refine bnext ?_ (by with_reducible assumption)) | exact Nat.le_refl _ | (simp; done) | omega | (simp; omega)))))) ?_ (by decide)
              rotate_left
              · intro w9; go_simp; try with_reducible rfl
              try simp only [Act.put, List.getElem_toArray, List.getElem_cons_succ, List.getElem_cons_zero, List.setIfInBounds_toArray, List.set_cons_zero, List.set_cons_succ]
              refine wpAnyT_next (i := 26) (by kernel_rfl) rfl ?_
              intro K hK
              go_simp
              go_at_call 20
              refine (HPU2.out _ (by exact (by repeat (first | (with_reducible exact Below.refl _ _) | (with_reducible assumption) | (with_reducible refine bset ?_ ?_ _) | (with_reducible refine balloc ?_ _) | (with_reducible refine Below.drew ?_) | (with_reducible refine bdrewN ?_ _) | (with_reducible refine bnext ?_ (by with_reducible assumption)) | exact Nat.le_refl _ | (simp; done) | omega | (simp; omega))))).mono ?_
              rintro e w7 ⟨rfl, A7, c7, h7, s7⟩
              have S7 := Lib.hid s7
              have H7 := Lib.hid h7
              clear h7 s7
              go_simp
              refine hK.out _ _ (fun h => absurd ((by kernel_rfl : false = _).trans h) Bool.false_ne_true) ?_
              clear hK K
              try simp only [Act.put, List.getElem_toArray, List.getElem_cons_succ, List.getElem_cons_zero, List.setIfInBounds_toArray, List.set_cons_zero, List.set_cons_succ]
              refine wpAnyT_done (by kernel_rfl) ?_ _
              --n19>
              have hK7 : Below w.heap.size w w7 := K5.out.trans (((S4.out.comp S5.out).comp S7.out).below K5.out.size (fun q hq => by
                rcases hq with e | e
                · omega
                · exact (K3.out.rt.row.lt q e).1))
              have HK7 := Lib.hid hK7
              clear hK7 HSS
              go_wp2
              go_roundw
              case rel => exact ⟨A7, c7, _, Lib.hid ⟨HST1.out _, H7.out, K4.out.out K3.out (by omega) ((S4.out.comp S5.out).comp S7.out), HK7.out⟩⟩
              case measure =>
                have h7 := H7.out.box.get 0
                simp only [List.getElem?_toArray, List.getElem?_cons_zero] at h7
                have hl7 := HLN1.out w5.heap.size
                rw [h7, f0]
                simp only
                omega
            · have h2' : ¬ (1 : Int) < (gs.length : Int) := by omega
              cases gs with
              | nil =>
                have hpn : hl.pos counts = [] := List.nil_perm.1 (by simpa using k0.fi.syms)
                have hb0 : hl.best counts = 0 := by rw [HBE.out, hpn]; rfl
                have HFI : Hid (LenPost counts w (.returned (.tuple #[.slice (some ⟨w.heap.size, 0, none⟩) k k, .int .i64 0])) wr) := Lib.hid (HFIN.out _ _ (List.replicate k 0) k5 (by
                  have hg := hl.good_none hpn (by omega)
                  rw [hb0]
                  rw [HN.out] at hg
                  exact hg) k4)
                simp only [List.length_nil] at f0
                clear k0 k3 k4 k5 HK hpn hb0
                go_wp2
                go_loopw [91] (fun i wx => i = .int .i64 0 ∧ wr = wx) (fun _ _ => 0)
                case atStart => exact ⟨rfl, rfl⟩
                case round =>
                  obtain ⟨rfl, rfl⟩ := hrel
                  go_wp2
                  go_ret2
                  exact HFI.out
              | cons x rest =>
                obtain rfl : rest = [] := by
                  cases rest with
                  | nil => rfl
                  | cons y r => simp only [List.length_cons] at h2; omega
                obtain ⟨p, t⟩ := x
                have hfi : hl.FI counts [t] := k0.fi
                have hd := k0.one rfl (p, t) (by simp)
                obtain ⟨hgood, hdep⟩ := hl.good_tree hfi (by omega) HR.out hd
                rw [HN.out, ← HBE.out] at hgood
                have hwf := hfi.wf t (by simp)
                have htt : TAt wr p t := k3.rt.tr (p, t) (by simp)
                have hfits : ho.Fits k t := fun s hs => by have := hwf.syms s hs; have := HN.out; omega
                have hdp0 := hwf.dep0
                have hOA : ∀ q cs, BlkA wr q 50 cs → ¬ q = w.heap.size := fun q cs hb e => by
                  subst e
                  exact hb.apart k4 intNeTree rfl
                have HTL : Hid (∀ wx, Stays wr wx (fun q => q = w.heap.size) → Own wx w.heap.size 3 1 (some ⟨w.heap.size, 0, none⟩) k k (ho.iv (List.replicate k 0)) → Calls Try.prog 21 #[.pointer (some ⟨p, 0, none⟩), .slice (some ⟨w.heap.size, 0, none⟩) k k, .int .i64 0] wx fun e w' => e = .returned (.tuple #[]) ∧ Own w' w.heap.size 3 1 (some ⟨w.heap.size, 0, none⟩) k k (ho.iv (hl.lay t 0 (List.replicate k 0))) ∧ Stays wx w' (fun q => q = w.heap.size)) := Lib.hid (fun wx hs ho_ => tree_lengths w.heap.size k w.heap.size k t p (List.replicate k 0) 0 wx (TAt.stays hs hOA htt) ho_ hfits (Int.le_refl _) (by omega) ⟨counts, hwf⟩)
                obtain ⟨g, rfl, _, lg, a0⟩ := k3.rt.at_ (i := 0) (by simp)
                simp only [List.getD_cons_zero] at a0
                simp only [List.length_cons, List.length_nil] at f0
                have hgo : g ≠ w.heap.size := fun e => by
                  rcases Own.two k4 k3.rt.row (by decide) with h1 | h1
                  · cases h1
                  · exact h1 (by rw [e])
                have HA0 : Hid (∀ wx, Stays wr wx (fun q => q = w.heap.size) → wx.cell? ⟨g, 0, none⟩ = some (.pointer (some ⟨p, 0, none⟩))) := Lib.hid (fun wx hs => by
                  have hr := k3.rt.row.stays hs (fun q hq e => hgo (by have hq' : g = q := by simpa [blkOf] using hq
                                                                       rw [hq', e]))
                  obtain ⟨g2, e2, _, _, h9⟩ := hr.cell (j := 0) (u := .pointer (some ⟨p, 0, none⟩)) rfl
                  simp only [Option.some.injEq, Addr.mk.injEq, and_true] at e2
                  rw [e2]
                  exact h9)
                have HFI : Hid (∀ wx, Stays wr wx (fun q => q = w.heap.size) → Own wx w.heap.size 3 1 (some ⟨w.heap.size, 0, none⟩) k k (ho.iv (hl.lay t 0 (List.replicate k 0))) → LenPost counts w (.returned (.tuple #[.slice (some ⟨w.heap.size, 0, none⟩) k k, .int .i64 0])) wx) := Lib.hid (fun wx hs ho_ => HFIN.out _ _ (hl.lay t 0 (List.replicate k 0)) (k5.trans (hs.below k5.size (fun q hq => by omega))) hgood ho_)
                have H0 : Hid (Own wr w.heap.size 3 1 (some ⟨w.heap.size, 0, none⟩) k k (ho.iv (ho.stg (List.replicate k 0) (hl.lay t 0 (List.replicate k 0)) [] 0)) ∧ Stays wr wr (fun q => q = w.heap.size)) := Lib.hid ⟨k4, Stays.refl _ _⟩
                clear k0 k3 k4 k5 HK hfi hd hgood hdep hwf htt hfits hdp0 hOA hgo
                go_wp2
                go_loopw [91] (fun i wx => ∃ j : Nat, j ≤ 1 ∧ i = .int .i64 (j : Int) ∧ Hid (Own wx w.heap.size 3 1 (some ⟨w.heap.size, 0, none⟩) k k (ho.iv (ho.stg (List.replicate k 0) (hl.lay t 0 (List.replicate k 0)) [] j)) ∧ Stays wr wx (fun q => q = w.heap.size))) (fun i _ => 1 - (intOf i).toNat)
                case atStart => exact ⟨0, by omega, rfl, H0⟩
                case round =>
                  obtain ⟨j, hj, rfl, HJ⟩ := hrel
                  rename World => wx
                  obtain ⟨j4, j5⟩ := HJ.out
                  have hj2 : j = 0 ∨ j = 1 := by omega
                  rcases hj2 with rfl | rfl
                  · have HC := Lib.hid (HTL.out wx j5 j4)
                    have a1 := HA0.out wx j5
                    have J5 := Lib.hid j5
                    clear j4 j5 HJ
                    go_wp2_with (first
                      | (go_at_call 21; ((with_reducible refine HC.out.mono ?_); rintro e w9 ⟨rfl, h9, s9⟩; have H9 := Lib.hid h9; have S9 := Lib.hid s9; clear h9 s9))
                      | fail)
                    go_roundw
                    case rel => exact ⟨1, by omega, rfl, Lib.hid ⟨H9.out, J5.out.comp S9.out⟩⟩
                    case measure => simp [intOf]
                  · have HF := Lib.hid (HFI.out wx j5 j4)
                    clear j4 j5 HJ
                    go_wp2
                    go_ret2
                    exact HF.out
end Go.Proofs.Ytfggcmbainhglaa
namespace Go.Proofs.Ytfggcmbainhglaa
open Go.Shelf
def sh191_ren : Go.Shelf.Ren := ⟨fun | 191 => 22 | 189 => 32 | 125 => 36 | 257 => 35 | 128 => 49 | 129 => 50 | 294 => 40 | 295 => 41 | 296 => 42 | 297 => 43 | 298 => 44 | 299 => 45 | 216 => 46 | 300 => 47 | 301 => 48 | 328 => 53 | 329 => 54 | 330 => 55 | 331 => 56 | 332 => 57 | 215 => 52 | 343 => 60 | n => n, fun | 28 => 22 | 0 => 0 | 3 => 3 | 46 => 79 | 51 => 93 | 53 => 95 | 4 => 4 | 183 => 87 | 182 => 86 | 131 => 80 | 5 => 5 | 9 => 9 | 218 => 97 | 222 => 101 | 228 => 105 | 229 => 106 | n => n, fun | n => n⟩
theorem sh191 : Go.Proofs.Lays.n191 Try.prog sh191_ren := {
  mixed := by kernel_rfl
  f125 := Try.func36.trans (congrArg some (by kernel_rfl))
  f128 := Try.func49.trans (congrArg some (by kernel_rfl))
  f129 := Try.func50.trans (congrArg some (by kernel_rfl))
  f189 := Try.func32.trans (congrArg some (by kernel_rfl))
  f191 := Try.func22.trans (congrArg some (by kernel_rfl))
  f215 := Try.func52.trans (congrArg some (by kernel_rfl))
  f216 := Try.func46.trans (congrArg some (by kernel_rfl))
  f257 := Try.func35.trans (congrArg some (by kernel_rfl))
  f294 := Try.func40.trans (congrArg some (by kernel_rfl))
  f295 := Try.func41.trans (congrArg some (by kernel_rfl))
  f296 := Try.func42.trans (congrArg some (by kernel_rfl))
  f297 := Try.func43.trans (congrArg some (by kernel_rfl))
  f298 := Try.func44.trans (congrArg some (by kernel_rfl))
  f299 := Try.func45.trans (congrArg some (by kernel_rfl))
  f300 := Try.func47.trans (congrArg some (by kernel_rfl))
  f301 := Try.func48.trans (congrArg some (by kernel_rfl))
  f328 := Try.func53.trans (congrArg some (by kernel_rfl))
  f329 := Try.func54.trans (congrArg some (by kernel_rfl))
  f330 := Try.func55.trans (congrArg some (by kernel_rfl))
  f331 := Try.func56.trans (congrArg some (by kernel_rfl))
  f332 := Try.func57.trans (congrArg some (by kernel_rfl))
  f343 := Try.func60.trans (congrArg some (by kernel_rfl))
  t0 := Try.underlying0
  a0 := Try.isAgg0
  z0 := Try.sizeOf0
  v0 := Try.zeroValue0
  t3 := Try.underlying3
  a3 := Try.isAgg3
  z3 := Try.sizeOf3
  v3 := Try.zeroValue3
  t4 := Try.underlying4
  a4 := Try.isAgg4
  z4 := Try.sizeOf4
  v4 := Try.zeroValue4
  t5 := Try.underlying5
  a5 := Try.isAgg5
  z5 := Try.sizeOf5
  v5 := Try.zeroValue5
  t9 := Try.underlying9
  a9 := Try.isAgg9
  z9 := Try.sizeOf9
  v9 := Try.zeroValue9
  t28 := Try.underlying22
  a28 := Try.isAgg22
  z28 := Try.sizeOf22
  v28 := Try.zeroValue22
  t46 := Try.underlying79
  a46 := Try.isAgg79
  z46 := Try.sizeOf79
  v46 := Try.zeroValue79
  t51 := Try.underlying93
  a51 := Try.isAgg93
  z51 := Try.sizeOf93
  v51 := Try.zeroValue93
  t53 := Try.underlying95
  a53 := Try.isAgg95
  z53 := Try.sizeOf95
  v53 := Try.zeroValue95
  t131 := Try.underlying80
  a131 := Try.isAgg80
  z131 := Try.sizeOf80
  v131 := Try.zeroValue80
  t182 := Try.underlying86
  a182 := Try.isAgg86
  z182 := Try.sizeOf86
  v182 := Try.zeroValue86
  t183 := Try.underlying87
  a183 := Try.isAgg87
  z183 := Try.sizeOf87
  v183 := Try.zeroValue87
  t218 := Try.underlying97
  a218 := Try.isAgg97
  z218 := Try.sizeOf97
  v218 := Try.zeroValue97
  t222 := Try.underlying101
  a222 := Try.isAgg101
  z222 := Try.sizeOf101
  v222 := Try.zeroValue101
  t228 := Try.underlying105
  a228 := Try.isAgg105
  z228 := Try.sizeOf105
  v228 := Try.zeroValue105
  t229 := Try.underlying106
  a229 := Try.isAgg106
  z229 := Try.sizeOf106
  v229 := Try.zeroValue106 }
end Go.Proofs.Ytfggcmbainhglaa
namespace Go.Proofs.Ytfggcmbainhglaa
open Go.RowKit
set_option linter.unusedSimpArgs false

theorem ho.elemI : ElemT Try.prog 22 3 1 8 := ElemT.of Try.underlying22 (z := .int .i64 0) (by kernel_rfl) rfl (by decide)
theorem ho.sorted (B g c : Nat) (l : List Int) (w : World) (h : Own w B 3 1 (some ⟨g, 0, none⟩) l.length c (ho.iv l)) (hl_ : l.length ≤ 1000) :
    Calls Try.prog 22 #[.slice (some ⟨g, 0, none⟩) l.length c] w fun e w' => e = .returned (.tuple #[]) ∧ Own w' B 3 1 (some ⟨g, 0, none⟩) l.length c (ho.iv (hl.sort l)) ∧ Stays w w' (fun k => k = g) := by
  rcases h.2 with ⟨h0, _⟩ | ⟨g2, cap, cur, hv, hg, hb, hn, hcap, hs, ht⟩
  · cases h0
  simp only [Value.slice.injEq, Option.some.injEq, Addr.mk.injEq, and_true, true_and] at hv
  obtain ⟨rfl, rfl⟩ := hv
  have hH := holds_of_blockI (ss := l) hb (by simpa [ho.iv] using ht)
  have hlt : g < w.heap.size := (Array.getElem?_eq_some_iff.1 hb).1
  refine (Any.sort_Ints sh191 g 0 c l w hH hlt (by omega)).mono ?_
  rintro e w' ⟨rfl, nn, os, rfl⟩
  have hsl : (l.mergeSort fun x y => decide (x ≤ y)).length = l.length := List.length_mergeSort l
  refine ⟨rfl, ?_, ?_⟩
  · exact ownsRow_sortedI hsl hg hb hn hcap hs
  · have hgb := grownBy_sortedI (w := w) (g := g) (n := nn) (os := os) (l.mergeSort fun x y => decide (x ≤ y)).toArray
    exact ⟨hgb.os, hgb.tape, hgb.output, hgb.size, fun k hk hne => hgb.block k hk (fun e => hne (by cases e; rfl))⟩
theorem hl.hcF_bd {S : Int} (hS : 0 ≤ S) : ∀ (n : Nat) (l : List Int), (∀ x ∈ l, 0 ≤ x) → l.sum ≤ S → 0 ≤ hl.hcF n l ∧ hl.hcF n l ≤ n * S
  | 0, _, _, _ => ⟨Int.le_refl _, by show (0 : Int) ≤ ((0 : Nat) : Int) * S; simp⟩
  | n + 1, l, h0, hs => by
    rw [hl.hcF]
    split
    · next x y r e =>
      have hp := hl.sort_perm l
      rw [e] at hp
      have hsum := hl.perm_sum hp
      rw [List.sum_cons, List.sum_cons] at hsum
      have hx := h0 x (hp.subset (by simp))
      have hy := h0 y (hp.subset (by simp))
      have hr : 0 ≤ r.sum := by
        have : ∀ m : List Int, (∀ z ∈ m, 0 ≤ z) → 0 ≤ m.sum := by
          intro m
          induction m with
          | nil => intro _; exact Int.le_refl _
          | cons z m ih => intro hz; rw [List.sum_cons]; have h1 := hz z (by simp); have h2 := ih (fun q hq => hz q (by simp [hq])); omega
        exact this r (fun z hz => h0 z (hp.subset (by simp [hz])))
      have ih := hl.hcF_bd hS n ((x + y) :: r) (fun z hz => by
        rcases List.mem_cons.1 hz with rfl | hz
        · omega
        · exact h0 z (hp.subset (by simp [hz]))) (by rw [List.sum_cons]; omega)
      have e2 : ((n + 1 : Nat) : Int) * S = (n : Int) * S + S := by rw [Int.natCast_add, Int.add_mul]; simp
      rw [e2]
      omega
    · have e2 : ((n + 1 : Nat) : Int) * S = (n : Int) * S + S := by rw [Int.natCast_add, Int.add_mul]; simp
      have e3 : 0 ≤ (n : Int) * S := Int.mul_nonneg (by omega) hS
      rw [e2]
      omega
theorem hl.hc_bd {S : Int} {l : List Int} (hS : 0 ≤ S) (h0 : ∀ x ∈ l, 0 ≤ x) (hs : l.sum ≤ S) (hl_ : l.length ≤ 64) : 0 ≤ hl.hc l ∧ hl.hc l ≤ 64 * S := by
  have h := hl.hcF_bd hS l.length l h0 hs
  have e : (l.length : Int) * S ≤ 64 * S := Int.mul_le_mul_of_nonneg_right (by omega) hS
  unfold hl.hc
  omega
/-- a round of the reference -/
theorem hl.round {xs : List Int} (h : 2 ≤ xs.length) : ∃ a b r, hl.sort xs = a :: b :: r ∧ hl.hc xs = (a + b) + hl.hc ((a + b) :: r) ∧ ((a + b) :: r).length + 1 = xs.length ∧ ((a + b) :: r).sum = xs.sum ∧ ((∀ x ∈ xs, 0 ≤ x) → (∀ x ∈ (a + b) :: r, 0 ≤ x) ∧ 0 ≤ a ∧ 0 ≤ b) := by
  have hp := hl.sort_perm xs
  have hs := hl.sort_sorted xs
  have hle := hp.length_eq
  match e : hl.sort xs with
  | [] => rw [e] at hle; simp at hle; omega
  | [x] => rw [e] at hle; simp at hle; omega
  | a :: b :: r =>
    rw [e] at hp hs
    have h1 := List.pairwise_cons.1 hs
    have h2 := List.pairwise_cons.1 h1.2
    have hsum := hl.perm_sum hp
    rw [List.sum_cons, List.sum_cons] at hsum
    refine ⟨a, b, r, rfl, hl.hc_two hp.symm (h1.1 b (by simp)) h2.1, by rw [e] at hle; simp at hle ⊢; omega, by rw [List.sum_cons]; omega, fun h0 => ?_⟩
    have ha := h0 a (hp.subset (by simp))
    have hb := h0 b (hp.subset (by simp))
    refine ⟨fun x hx => ?_, ha, hb⟩
    rcases List.mem_cons.1 hx with rfl | hx
    · omega
    · exact h0 x (hp.subset (by simp [hx]))
theorem Own.back1 {w : World} {base e n c : Nat} {A : Option Addr} {xs : List Value} (h : Own w base e 1 A n c xs) {k : Nat} (hk : k ≤ n) : Cells w (cutA A c k 1) (xs.drop k) := by
  have hl := h.len
  rcases h.2 with ⟨h1, h2⟩ | ⟨g, cap, cur, h1, h2, h3, h4, h5, h6, h7⟩
  · exact .inl (List.eq_nil_of_length_eq_zero (by rw [List.length_drop]; omega))
  · by_cases e0 : k = n
    · exact .inl (List.eq_nil_of_length_eq_zero (by rw [List.length_drop]; omega))
    · simp only [Value.slice.injEq] at h1
      obtain ⟨rfl, _, rfl⟩ := h1
      refine .inr ⟨g, k, by unfold cutA; rw [if_neg (by omega)]; simp [addr_add], fun j u hu => ?_⟩
      rw [List.getElem?_drop] at hu
      obtain ⟨g', e1, _, _, hc⟩ := h.cell hu
      cases e1
      exact hc
def hl.posv (counts : List Int) (k : Nat) : List Int := (hl.posTo counts k).map fun s => counts.getD s 0
theorem hl.posv_succ (counts : List Int) (k : Nat) : hl.posv counts (k + 1) = hl.posv counts k ++ if 0 < counts.getD k 0 then [counts.getD k 0] else [] := by
  unfold hl.posv
  rw [hl.posTo_succ, List.map_append]
  congr 1
  split <;> rfl
end Go.Proofs.Ytfggcmbainhglaa
