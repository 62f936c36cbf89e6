/- The heap of package container/heap over the forest: up, Init, Pop, Push. No condition. -/
import Derived.Test.YtkbmpppendelcaaHeapY
namespace Go.Proofs.Ytkbmpppendelcaa
open Go.RowKit
set_option linter.unusedSimpArgs false

def ho.up (fs : List (Nat × hl.T)) (j : Nat) : List (Nat × hl.T) := hp.up ho.ek ho.ez fs j
theorem ho.up_stop (fs : List (Nat × hl.T)) : ho.up fs 0 = fs := by
  unfold ho.up
  rw [hp.up, dif_neg (by omega)]
theorem ho.up_go (fs : List (Nat × hl.T)) (jm p : Nat) (hq : p = jm / 2) : ho.up fs (jm + 1) = if ho.lt fs (jm + 1) p = true then ho.up (hp.swap ho.ez fs p (jm + 1)) p else fs := by
  subst hq
  unfold ho.up
  rw [hp.up, dif_pos (by omega)]
  unfold ho.lt hp.K
  simp only [decide_eq_true_eq, Nat.add_sub_cancel]
set_option maxRecDepth 100000 in
set_option maxHeartbeats 1000000 in
theorem heap_up (B Fb : Nat) (A : Option Addr) (c : Nat) (fs : List (Nat × hl.T)) (j : Nat) (w : World) (h : FAt w B Fb A c fs) (hj : j < fs.length) (hlow : ho.Low fs) (hlen : fs.length ≤ 1001) :
    Calls Try.prog 32 #[.iface 57 (.pointer (some ⟨Fb, 0, none⟩)), .int .i64 (j : Int)] w fun e w' => e = .returned (.tuple #[]) ∧ FAt w' B Fb A c (ho.up fs j) ∧ Stays w w' (fun k => blkOf A = some k) := by
  have hmL := fun (wx : World) (hc : wx.cell? ⟨Fb, 0, none⟩ = some (.slice A fs.length c)) => meth_Less Fb _ wx hc
  have hmS := fun (wx : World) (hc : wx.cell? ⟨Fb, 0, none⟩ = some (.slice A fs.length c)) => meth_Swap Fb _ wx hc
  obtain ⟨N, hN⟩ : ∃ N, fs.length = N := ⟨_, rfl⟩
  obtain ⟨R, hR⟩ : ∃ R, ho.up fs j = R := ⟨_, rfl⟩
  have H0 : Hid (fs.length = N ∧ FAt w B Fb A c fs ∧ Stays w w (fun k => blkOf A = some k) ∧ ho.Low fs ∧ ho.up fs j = R) := Lib.hid ⟨hN, h, Stays.refl _ _, hlow, hR⟩
  rw [hN] at hj hlen hmL hmS
  rw [hR]
  clear h hlow hR hN
  go_enter Try.func32, Try.ntmps32
  go_wp2
  go_loopw [1] (fun s1 wr => ∃ (m : Nat) (gs : List (Nat × hl.T)), s1 = .int .i64 (m : Int) ∧ m < N ∧ Hid (gs.length = N ∧ FAt wr B Fb A c gs ∧ Stays w wr (fun k => blkOf A = some k) ∧ ho.Low gs ∧ ho.up gs m = R)) (fun s1 _ => (intOf s1).toNat)
  case atStart => exact ⟨j, fs, rfl, hj, H0⟩
  case round =>
    obtain ⟨m, gs, rfl, hm, HG⟩ := hrel
    rename World => wr
    obtain ⟨g1, g2, g3, g4, g5⟩ := HG.out
    have f0 := g2.box.get 0
    have l0 := g2.box.lt
    simp only [List.getElem?_toArray, List.getElem?_cons_zero, g1] at f0
    cases m with
    | zero =>
      rw [ho.up_stop] at g5
      have G2 : Hid (FAt wr B Fb A c R ∧ Stays w wr (fun k => blkOf A = some k)) := Lib.hid ⟨g5 ▸ g2, g3⟩
      clear g1 g2 g3 g4 g5 HG H0
      go_wp2
      go_end0
      exact ⟨rfl, G2.out⟩
    | succ jm =>
      obtain ⟨p, hq⟩ : ∃ p : Nat, p = jm / 2 := ⟨_, rfl⟩
      obtain ⟨j1, hj1⟩ : ∃ j1 : Nat, j1 = jm + 1 := ⟨_, rfl⟩
      rw [ho.up_go gs jm p hq] at g5
      rw [← hj1] at hm g5 ⊢
      have hw1 : IntKind.i64.wrap ((j1 : Int) - 1) = (jm : Int) := by rw [show (j1 : Int) - 1 = (jm : Int) by omega]; exact IntWalk.i64_in _ (by omega)
      have hw2 : IntKind.i64.wrap ((jm : Int) / 2) = (p : Int) := by rw [show (jm : Int) / 2 = (p : Int) by omega]; exact IntWalk.i64_in _ (by omega)
      have hpj : p < j1 := by omega
      have hne : ((p : Int) == (j1 : Int)) = false := by simp; omega
      have hne2 : ¬ (p : Int) = (j1 : Int) := by omega
      have HLS := Lib.hid (forest_Less B A c gs j1 p wr g2.rt (by rw [g1]; omega) (by rw [g1]; omega) g4)
      rw [g1] at HLS
      obtain ⟨b, hb⟩ : ∃ b, ho.lt gs j1 p = b := ⟨_, rfl⟩
      have HLB : Hid (decide (ho.ek (gs.getD j1 ho.ez) < ho.ek (gs.getD p ho.ez)) = b) := Lib.hid hb
      rw [HLB.out] at HLS
      rw [hb] at g5
      have G1 := Lib.hid g1
      have G2 := Lib.hid g2
      have G3 := Lib.hid g3
      have G4 := Lib.hid g4
      have G5 := Lib.hid g5
      clear hb HLB hq hj1 g1 g2 g3 g4 g5 HG H0
      cases b with
      | false =>
        have G5b : Hid (R = gs) := Lib.hid (by rw [← G5.out]; rfl)
        go_wp2_with (first
          | (go_at_call 80; ((with_reducible refine HLS.out.mono ?_); rintro e w5 ⟨rfl, hb5⟩; have HB5 := Lib.hid hb5; clear hb5))
          | fail)
        go_end0
        exact ⟨rfl, by rw [G5b.out]; exact G2.out.next HB5.out, G3.out.comp (Stays.of_below HB5.out _)⟩
      | true =>
        have HSW : Hid (∀ wx, Below wr.heap.size wr wx → Calls Try.prog 81 #[.slice A N c, .int .i64 (p : Int), .int .i64 (j1 : Int)] wx fun e w' => e = .returned (.tuple #[]) ∧ RowT w' B A c (hp.swap ho.ez gs p j1) ∧ Stays wx w' (fun k => blkOf A = some k)) := Lib.hid (fun wx hb => by
          have h9 := forest_Swap B A c gs p j1 wx (G2.out.next hb).rt (by rw [G1.out]; omega) (by rw [G1.out]; omega)
          rw [G1.out] at h9
          exact h9)
        go_wp2_with (first
          | (go_at_call 80; ((with_reducible refine HLS.out.mono ?_); rintro e w5 ⟨rfl, hb5⟩; have HB5 := Lib.hid hb5; have h5 := G2.out.next hb5; have f5 := h5.box.get 0; have l5 := h5.box.lt; (simp only [List.getElem?_toArray, List.getElem?_cons_zero, G1.out] at f5); have H5 := Lib.hid h5; clear hb5 h5))
          | (go_at_call 81; ((with_reducible refine (HSW.out _ HB5.out).mono ?_); rintro e w6 ⟨rfl, r6, s6⟩; have R6 := Lib.hid r6; have S6 := Lib.hid s6; clear r6 s6))
          | fail)
        go_roundw
        case rel =>
          have hpm := hp.swap_perm ho.ez (l := gs) (i := p) (j := j1) (by rw [G1.out]; omega) (by rw [G1.out]; omega)
          refine ⟨p, hp.swap ho.ez gs p j1, rfl, by omega, Lib.hid ⟨by rw [hp.swap_length]; exact G1.out, H5.out.swapped R6.out (hp.swap_length ..) S6.out, G3.out.comp ((Stays.of_below HB5.out _).comp S6.out), G4.out.perm hpm, ?_⟩⟩
          rw [← G5.out]
          rfl
        case measure => simp [intOf]; omega
theorem ho.dn_perm {fs : List (Nat × hl.T)} {n i : Nat} (h : n ≤ fs.length) : (ho.dn fs n i).Perm fs := by
  have key : ∀ (k : Nat) (l : List (Nat × hl.T)) (i : Nat), n - i ≤ k → n ≤ l.length → (ho.dn l n i).Perm l := by
    intro k
    induction k with
    | zero =>
      intro l i hk hl
      rw [ho.dn_stop (by omega)]
    | succ k ih =>
      intro l i hk hl
      by_cases hc : 2 * i + 1 < n
      · rw [ho.dn_go hc rfl]
        generalize hj : (if 2 * i + 2 < n ∧ ho.lt l (2 * i + 2) (2 * i + 1) = true then 2 * i + 2 else 2 * i + 1) = j
        have hjn : j < n ∧ i < j := by split at hj <;> omega
        split
        · exact (ih _ j (by omega) (by rw [hp.swap_length]; exact hl)).trans (hp.swap_perm ho.ez (by omega) (by omega))
        · exact List.Perm.refl _
      · rw [ho.dn_stop hc]
  exact key (n - i) fs i (Nat.le_refl _) h
def ho.ini (l : List (Nat × hl.T)) (k : Nat) (m : List (Nat × hl.T)) : List (Nat × hl.T) := hp.init ho.ek ho.ez l k m
set_option maxRecDepth 100000 in
set_option maxHeartbeats 1000000 in
theorem heap_Init (B Fb : Nat) (A : Option Addr) (c : Nat) (fs : List (Nat × hl.T)) (w : World) (h : FAt w B Fb A c fs) (hlow : ho.Low fs) (hlen : fs.length ≤ 1000) :
    Calls Try.prog 21 #[.iface 57 (.pointer (some ⟨Fb, 0, none⟩))] w fun e w' => e = .returned (.tuple #[]) ∧ FAt w' B Fb A c (ho.ini fs (fs.length / 2) fs) ∧ Stays w w' (fun k => blkOf A = some k) := by
  have f0 := h.box.get 0
  simp only [List.getElem?_toArray, List.getElem?_cons_zero] at f0
  have hm := meth_Len Fb _ w f0
  obtain ⟨N, hN⟩ : ∃ N, fs.length = N := ⟨_, rfl⟩
  obtain ⟨R, hR⟩ : ∃ R, ho.ini fs (fs.length / 2) fs = R := ⟨_, rfl⟩
  have HIN : Hid (∀ k gs, ho.ini fs (k + 1) gs = ho.ini fs k (ho.dn gs N k)) := Lib.hid (fun k gs => by unfold ho.ini ho.dn; rw [hp.init, hN])
  have HI0 : Hid (∀ gs, ho.ini fs 0 gs = gs) := Lib.hid (fun gs => rfl)
  obtain ⟨h2, hh2⟩ : ∃ h2 : Nat, h2 = N / 2 := ⟨_, rfl⟩
  have H0 : Hid (fs.length = N ∧ FAt w B Fb A c fs ∧ Stays w w (fun k => blkOf A = some k) ∧ ho.Low fs ∧ ho.ini fs h2 fs = R) := Lib.hid ⟨hN, h, Stays.refl _ _, hlow, by rw [hh2, ← hN]; exact hR⟩
  rw [hN] at hlen hm f0
  rw [hR]
  have hw1 : IntKind.i64.wrap ((N : Int) / 2) = (h2 : Int) := by rw [show (N : Int) / 2 = (h2 : Int) by omega]; exact IntWalk.i64_in _ (by omega)
  obtain ⟨v0, hv0⟩ : ∃ v0 : Int, v0 = (h2 : Int) - 1 := ⟨_, rfl⟩
  have hw2 : IntKind.i64.wrap ((h2 : Int) - 1) = v0 := by rw [← hv0]; exact IntWalk.i64_in _ (by omega)
  have hh3 : h2 ≤ N := by omega
  have HV0 := Lib.hid hv0
  clear h hlow hR hN hh2 hv0
  go_enter Try.func21, Try.ntmps21
  go_upto_region 2 with (first
    | (go_at_call 79; ((with_reducible refine (forest_Len _ _ _ _).mono ?_); rintro e _ ⟨rfl, rfl⟩))
    | fail)
  go_loopw [3] (fun s3 wr => ∃ (k : Nat) (v : Int) (gs : List (Nat × hl.T)), s3 = .int .i64 v ∧ k ≤ N ∧ Hid (v = (k : Int) - 1 ∧ gs.length = N ∧ FAt wr B Fb A c gs ∧ Stays w wr (fun k => blkOf A = some k) ∧ ho.Low gs ∧ ho.ini fs k gs = R)) (fun s3 _ => (intOf s3 + 1).toNat)
  case atStart => exact ⟨h2, v0, fs, rfl, hh3, Lib.hid ⟨HV0.out, H0.out⟩⟩
  case round =>
    obtain ⟨k, v, gs, rfl, hk, HG⟩ := hrel
    rename World => wr
    obtain ⟨gv, g1, g2, g3, g4, g5⟩ := HG.out
    cases k with
    | zero =>
      obtain rfl : v = -1 := by simpa using gv
      rw [HI0.out] at g5
      have G2 : Hid (FAt wr B Fb A c R ∧ Stays w wr (fun k => blkOf A = some k)) := Lib.hid ⟨g5 ▸ g2, g3⟩
      clear gv g1 g2 g3 g4 g5 HG H0
      go_wp2
      go_end0
      exact ⟨rfl, G2.out⟩
    | succ k =>
      obtain rfl : v = (k : Int) := by omega
      have hk0 : (0 : Int) ≤ (k : Int) := by omega
      obtain ⟨v1, hv1⟩ : ∃ v1 : Int, v1 = (k : Int) - 1 := ⟨_, rfl⟩
      have hw3 : IntKind.i64.wrap ((k : Int) - 1) = v1 := by rw [← hv1]; exact IntWalk.i64_in _ (by omega)
      have HDN := Lib.hid (heap_down B Fb A c gs k N wr g2 (by omega) g4 (by omega) (by omega))
      have HV1 := Lib.hid hv1
      have G1 := Lib.hid g1
      have G3 := Lib.hid g3
      have G4 := Lib.hid g4
      have G5 := Lib.hid g5
      clear hv1 gv g1 g2 g3 g4 g5 HG H0
      go_wp2_with (first
        | (go_at_call 31; ((with_reducible refine HDN.out.mono ?_); rintro e w5 ⟨⟨bb, rfl⟩, h5, s5⟩; have H5 := Lib.hid h5; have S5 := Lib.hid s5; clear h5 s5))
        | fail)
      go_roundw
      case rel =>
        have hpm : (ho.dn gs N k).Perm gs := ho.dn_perm (by rw [G1.out]; omega)
        exact ⟨k, v1, ho.dn gs N k, rfl, by omega, Lib.hid ⟨HV1.out, by rw [hpm.length_eq]; exact G1.out, H5.out, G3.out.comp S5.out, G4.out.perm hpm, by rw [← HIN.out]; exact G5.out⟩⟩
      case measure => have := HV1.out; simp [intOf]; omega
def ho.popd (fs : List (Nat × hl.T)) : List (Nat × hl.T) := ho.dn (hp.swap ho.ez fs 0 (fs.length - 1)) (fs.length - 1) 0
set_option maxRecDepth 100000 in
set_option maxHeartbeats 1000000 in
theorem heap_Pop (B Fb : Nat) (A : Option Addr) (c : Nat) (fs : List (Nat × hl.T)) (w : World) (h : FAt w B Fb A c fs) (h0 : 0 < fs.length) (hlow : ho.Low fs) (hlen : fs.length ≤ 1000) :
    Calls Try.prog 22 #[.iface 57 (.pointer (some ⟨Fb, 0, none⟩))] w fun e w' => e = .returned (.iface 52 (.pointer (some ⟨((ho.popd fs).getD (fs.length - 1) ho.ez).1, 0, none⟩))) ∧ FAt w' B Fb A c ((ho.popd fs).take (fs.length - 1)) ∧ Stays w w' (fun k => k = Fb ∨ blkOf A = some k) := by
  obtain ⟨N, hN⟩ : ∃ N, fs.length = N := ⟨_, rfl⟩
  obtain ⟨m, hm⟩ : ∃ m, N - 1 = m := ⟨_, rfl⟩
  have hmL := fun (wx : World) (hc : wx.cell? ⟨Fb, 0, none⟩ = some (.slice A fs.length c)) => meth_Len Fb _ wx hc
  have hmS := fun (wx : World) (hc : wx.cell? ⟨Fb, 0, none⟩ = some (.slice A fs.length c)) => meth_Swap Fb _ wx hc
  have hmP := fun (wx : World) => meth_Pop (some ⟨Fb, 0, none⟩) wx
  have HSW : Hid (Calls Try.prog 81 #[.slice A fs.length c, .int .i64 0, .int .i64 (m : Int)] w fun e w' => e = .returned (.tuple #[]) ∧ RowT w' B A c (hp.swap ho.ez fs 0 m) ∧ Stays w w' (fun k => blkOf A = some k)) := Lib.hid (forest_Swap B A c fs 0 m w h.rt h0 (by omega))
  have hsw := hp.swap_perm ho.ez (l := fs) (i := 0) (j := m) h0 (by omega)
  have hsl : (hp.swap ho.ez fs 0 m).length = N := by rw [hp.swap_length]; exact hN
  have HDN : Hid (∀ (wx : World), FAt wx B Fb A c (hp.swap ho.ez fs 0 m) → Calls Try.prog 31 #[.iface 57 (.pointer (some ⟨Fb, 0, none⟩)), .int .i64 0, .int .i64 (m : Int)] wx fun e w' => ho.IsB e ∧ FAt w' B Fb A c (ho.dn (hp.swap ho.ez fs 0 m) m 0) ∧ Stays wx w' (fun k => blkOf A = some k)) := Lib.hid (fun (wx : World) (hx : FAt wx B Fb A c (hp.swap ho.ez fs 0 m)) => heap_down B Fb A c (hp.swap ho.ez fs 0 m) 0 m wx hx (by omega) (hlow.perm hsw) (by omega) (by omega))
  have hdl : (ho.dn (hp.swap ho.ez fs 0 m) m 0).length = N := by rw [(ho.dn_perm (by omega)).length_eq]; exact hsl
  have HPO := Lib.hid (fun (wx : World) (hx : FAt wx B Fb A c (ho.dn (hp.swap ho.ez fs 0 m) m 0)) => forest_Pop B Fb A c (ho.dn (hp.swap ho.ez fs 0 m) m 0) wx hx (by omega))
  have HE : Hid (ho.popd fs = ho.dn (hp.swap ho.ez fs 0 m) m 0) := Lib.hid (by unfold ho.popd; rw [hN, hm])
  have H := Lib.hid h
  have f0 := h.box.get 0
  have l0 := h.box.lt
  simp only [List.getElem?_toArray, List.getElem?_cons_zero] at f0
  rw [hN] at f0 hmL hmS hlen h0 HSW ⊢
  rw [hdl, hm] at HPO
  rw [hm, HE.out]
  have HM := Lib.hid hm
  have hw1 : IntKind.i64.wrap ((N : Int) - 1) = (m : Int) := by rw [show (N : Int) - 1 = (m : Int) by omega]; exact IntWalk.i64_in _ (by omega)
  have HDL := Lib.hid hdl
  have HSL := Lib.hid hsl
  have HNN := Lib.hid hN
  clear h hlow hN hm hsw hsl hdl HE
  generalize hp.swap ho.ez fs 0 m = gs at *
  generalize ho.dn gs m 0 = ds at *
  go_enter Try.func22, Try.ntmps22
  go_wp2_with (first
    | (go_at_call 79; ((with_reducible refine (forest_Len _ _ _ _).mono ?_); rintro e _ ⟨rfl, rfl⟩))
    | (go_at_call 81; ((with_reducible refine HSW.out.mono ?_); rintro e w4 ⟨rfl, r4, s4⟩; have H4 := Lib.hid (H.out.swapped r4 (by rw [HSL.out, HNN.out]) s4); have S4 := Lib.hid s4; have l4 := H4.out.box.lt; clear r4 s4))
    | (go_at_call 31; ((with_reducible refine (HDN.out _ H4.out).mono ?_); rintro e w5 ⟨⟨bb, rfl⟩, h5, s5⟩; have H5 := Lib.hid h5; have S5 := Lib.hid s5; clear h5 s5))
    | (go_at_call 83; ((with_reducible refine (HPO.out _ H5.out).mono ?_); rintro e w6 ⟨rfl, h6, s6⟩; have H6 := Lib.hid h6; have S6 := Lib.hid s6; clear h6 s6))
    | fail)
  go_ret
  exact ⟨rfl, H6.out, ((S4.out.comp S5.out).mono fun _ _ e => .inr e).comp (S6.out.mono fun _ _ e => .inl e)⟩
def ho.psh (fs : List (Nat × hl.T)) (x : Nat × hl.T) : List (Nat × hl.T) := ho.up (fs ++ [x]) fs.length
set_option maxRecDepth 100000 in
set_option maxHeartbeats 1000000 in
theorem heap_Push (B Fb : Nat) (A : Option Addr) (c : Nat) (fs : List (Nat × hl.T)) (p : Nat) (t : hl.T) (w : World) (h : FAt w B Fb A c fs) (ht : TAt w p t) (hlow : ho.Low (fs ++ [(p, t)])) (hlen : fs.length ≤ 1000) :
    Calls Try.prog 23 #[.iface 57 (.pointer (some ⟨Fb, 0, none⟩)), .iface 52 (.pointer (some ⟨p, 0, none⟩))] w fun e w' => e = .returned (.tuple #[]) ∧ ∃ A' c', FAt w' B Fb A' c' (ho.psh fs (p, t)) ∧ Stays w w' (fun k => k = Fb ∨ blkOf A = some k) ∧ ∀ k, blkOf A' = some k → blkOf A = some k ∨ w.heap.size ≤ k := by
  obtain ⟨N, hN⟩ : ∃ N, fs.length = N := ⟨_, rfl⟩
  have hmP := fun (wx : World) => meth_Push (some ⟨Fb, 0, none⟩) wx
  have hmL := fun (wx : World) (A' : Option Addr) (c' : Nat) (hc : wx.cell? ⟨Fb, 0, none⟩ = some (.slice A' (N + 1) c')) => meth_Len Fb _ wx hc
  have HPU := Lib.hid (forest_Push B Fb A c fs p t w h ht hlen)
  have hal : (fs ++ [(p, t)]).length = N + 1 := by rw [List.length_append, hN]; rfl
  have HUP := Lib.hid (fun (wx : World) (A' : Option Addr) (c' : Nat) (hx : FAt wx B Fb A' c' (fs ++ [(p, t)])) => heap_up B Fb A' c' (fs ++ [(p, t)]) N wx hx (by omega) hlow (by omega))
  have HE : Hid (ho.psh fs (p, t) = ho.up (fs ++ [(p, t)]) N) := Lib.hid (by unfold ho.psh; rw [hN])
  rw [HE.out]
  have hw1 : IntKind.i64.wrap (((N + 1 : Nat) : Int) - 1) = (N : Int) := by rw [show ((N + 1 : Nat) : Int) - 1 = (N : Int) by omega]; exact IntWalk.i64_in _ (by omega)
  have hw2 : IntKind.i64.wrap ((N : Int) + 1 - 1) = (N : Int) := by rw [show (N : Int) + 1 - 1 = (N : Int) by omega]; exact IntWalk.i64_in _ (by omega)
  have hw3 : IntKind.i64.wrap (N : Int) = (N : Int) := IntWalk.i64_in _ (by omega)
  have HAL := Lib.hid hal
  have hlo := h.box.lt
  clear h hlow ht hN hal HE
  generalize fs ++ [(p, t)] = gs at *
  go_enter Try.func23, Try.ntmps23
  go_upto_region 1 with (first
    | (go_at_call 84; ((with_reducible refine HPU.out.mono ?_); rintro e w4 ⟨rfl, A4, c4, h4, s4, n4⟩; have H4 := Lib.hid h4; have S4 := Lib.hid s4; have N4 := Lib.hid n4; have f4 := h4.box.get 0; have l4 := h4.box.lt; (simp only [List.getElem?_toArray, List.getElem?_cons_zero, HAL.out] at f4); have hmL4 := hmL w4 A4 c4 f4; clear h4 s4 n4))
    | fail)
  clear hmL
  go_wp2_with (first
    | (go_at_call 79; ((with_reducible refine (forest_Len _ _ _ _).mono ?_); rintro e _ ⟨rfl, rfl⟩))
    | (go_at_call 32; ((with_reducible refine (HUP.out _ A4 c4 (H4.out.next (by exact (by repeat (first | (with_reducible exact Below.refl _ _) | (with_reducible assumption) | (with_reducible refine bset ?_ ?_ _) | (with_reducible refine balloc ?_ _) | (with_reducible refine Below.drew ?_) | (with_reducible refine bdrewN ?_ _) | (with_reducible refine bnext ?_ (by with_reducible assumption)) | exact Nat.le_refl _ | (simp; done) | omega | (simp; omega)))))).mono ?_); rintro e w5 ⟨rfl, h5, s5⟩; have H5 := Lib.hid h5; have S5 : Hid (Stays w4 w5 (fun k => blkOf A4 = some k)) := Lib.hid ((Stays.of_below (by exact (by repeat (first | (with_reducible exact Below.refl _ _) | (with_reducible assumption) | (with_reducible refine bset ?_ ?_ _) | (with_reducible refine balloc ?_ _) | (with_reducible refine Below.drew ?_) | (with_reducible refine bdrewN ?_ _) | (with_reducible refine bnext ?_ (by with_reducible assumption)) | exact Nat.le_refl _ | (simp; done) | omega | (simp; omega)))) _).comp s5); clear h5 s5))
    | fail)
  go_end0
  refine ⟨rfl, A4, c4, H5.out, S4.out.trans S5.out (fun k hk e => ?_), N4.out⟩
  rcases N4.out k e with e | e
  · exact .inr e
  · omega
end Go.Proofs.Ytkbmpppendelcaa
