/- The heap of package container/heap over the forest. No condition. -/
import Derived.Test.YtkbmpppendelcaaHeapX
namespace Go.Proofs.Ytkbmpppendelcaa
open Go.RowKit
set_option linter.unusedSimpArgs false

theorem meth_Push (p : Option Addr) (w : World) : (method 224 57 (.pointer p) "Push").run Try.prog w = .ok (84, .pointer p) w := by kernel_rfl
theorem ho.recv_ (Fb : Nat) (s : String) (w : World) : (receiverAt 57 (.val (.pointer (some ⟨Fb, 0, none⟩))) false (some s)).run Try.prog w = (loadVar 51 ⟨Fb, 0, none⟩).run Try.prog w := by kernel_rfl
theorem ho.load_ (Fb : Nat) (v : Value) (w : World) (h : w.cell? ⟨Fb, 0, none⟩ = some v) : (loadVar 51 ⟨Fb, 0, none⟩).run Try.prog w = .ok v w := by
  have e : (loadVar 51 ⟨Fb, 0, none⟩).run Try.prog w = (load ⟨Fb, 0, none⟩).run Try.prog w := by kernel_rfl
  rw [e]
  simp [go_sem, h]
theorem meth_Less (Fb : Nat) (v : Value) (w : World) (h : w.cell? ⟨Fb, 0, none⟩ = some v) : (method 224 57 (.pointer (some ⟨Fb, 0, none⟩)) "Less").run Try.prog w = .ok (80, v) w := by
  have e : (method 224 57 (.pointer (some ⟨Fb, 0, none⟩)) "Less").run Try.prog w = (receiverAt 57 (.val (.pointer (some ⟨Fb, 0, none⟩))) false (some (("Less".splitOn ".").getLastD "Less")) >>= fun x => (pure (80, x) : Sem (FuncId × Value))).run Try.prog w := by kernel_rfl
  rw [e, Sem.run_bind, ho.recv_, ho.load_ Fb v w h]
  rfl
theorem meth_Len (Fb : Nat) (v : Value) (w : World) (h : w.cell? ⟨Fb, 0, none⟩ = some v) : (method 224 57 (.pointer (some ⟨Fb, 0, none⟩)) "Len").run Try.prog w = .ok (79, v) w := by
  have e : (method 224 57 (.pointer (some ⟨Fb, 0, none⟩)) "Len").run Try.prog w = (receiverAt 57 (.val (.pointer (some ⟨Fb, 0, none⟩))) false (some (("Len".splitOn ".").getLastD "Len")) >>= fun x => (pure (79, x) : Sem (FuncId × Value))).run Try.prog w := by kernel_rfl
  rw [e, Sem.run_bind, ho.recv_, ho.load_ Fb v w h]
  rfl
theorem meth_Swap (Fb : Nat) (v : Value) (w : World) (h : w.cell? ⟨Fb, 0, none⟩ = some v) : (method 224 57 (.pointer (some ⟨Fb, 0, none⟩)) "Swap").run Try.prog w = .ok (81, v) w := by
  have e : (method 224 57 (.pointer (some ⟨Fb, 0, none⟩)) "Swap").run Try.prog w = (receiverAt 57 (.val (.pointer (some ⟨Fb, 0, none⟩))) false (some (("Swap".splitOn ".").getLastD "Swap")) >>= fun x => (pure (81, x) : Sem (FuncId × Value))).run Try.prog w := by kernel_rfl
  rw [e, Sem.run_bind, ho.recv_, ho.load_ Fb v w h]
  rfl
theorem meth_Pop (p : Option Addr) (w : World) : (method 224 57 (.pointer p) "Pop").run Try.prog w = .ok (83, .pointer p) w := by kernel_rfl
def ho.IsB (e : Ending) : Prop := ∃ b, e = .returned (.bool b)
def ho.If (Fb : Nat) : Value := .iface 57 (.pointer (some ⟨Fb, 0, none⟩))
theorem FAt.swapped {w w' : World} {B Fb : Nat} {A : Option Addr} {c : Nat} {fs gs : List (Nat × hl.T)} (h : FAt w B Fb A c fs) (hr : RowT w' B A c gs) (hl : gs.length = fs.length) (hs : Stays w w' (fun k => blkOf A = some k)) : FAt w' B Fb A c gs :=
  ⟨h.lo, by rw [hl]; exact h.box.stays hs h.far, hr⟩
theorem ho.Low.perm {fs gs : List (Nat × hl.T)} (h : ho.Low fs) (hp : gs.Perm fs) : ho.Low gs := fun x hx => h x (hp.subset hx)
def ho.dn (fs : List (Nat × hl.T)) (n i : Nat) : List (Nat × hl.T) := hp.down ho.ek ho.ez fs n i
def ho.lt (fs : List (Nat × hl.T)) (i j : Nat) : Bool := decide (ho.ek (fs.getD i ho.ez) < ho.ek (fs.getD j ho.ez))
theorem ho.dn_stop {fs : List (Nat × hl.T)} {n i : Nat} (h : ¬ 2 * i + 1 < n) : ho.dn fs n i = fs := by
  unfold ho.dn
  rw [hp.down, dif_neg h]
theorem ho.dn_go {fs : List (Nat × hl.T)} {n i j : Nat} (h : 2 * i + 1 < n) (hj : j = if 2 * i + 2 < n ∧ ho.lt fs (2 * i + 2) (2 * i + 1) = true then 2 * i + 2 else 2 * i + 1) : ho.dn fs n i = if ho.lt fs j i = true then ho.dn (hp.swap ho.ez fs i j) n j else fs := by
  have e : hp.child ho.ek ho.ez fs n i = j := by
    rw [hj]
    unfold hp.child ho.lt hp.K
    simp only [decide_eq_true_eq]
  unfold ho.dn
  rw [hp.down, dif_pos h, e]
  unfold ho.lt hp.K
  simp only [decide_eq_true_eq]
set_option maxRecDepth 100000 in
set_option maxHeartbeats 1000000 in
theorem heap_down (B Fb : Nat) (A : Option Addr) (c : Nat) (fs : List (Nat × hl.T)) (i n : Nat) (w : World) (h : FAt w B Fb A c fs) (hn : n ≤ fs.length) (hlow : ho.Low fs) (hlen : fs.length ≤ 1000) (hi : i ≤ 1000) :
    Calls Try.prog 31 #[.iface 57 (.pointer (some ⟨Fb, 0, none⟩)), .int .i64 (i : Int), .int .i64 (n : Int)] w fun e w' => ho.IsB e ∧ FAt w' B Fb A c (ho.dn fs n i) ∧ Stays w w' (fun k => blkOf A = some k) := by
  have hmL := fun (wx : World) (hc : wx.cell? ⟨Fb, 0, none⟩ = some (.slice A fs.length c)) => meth_Less Fb _ wx hc
  have hmS := fun (wx : World) (hc : wx.cell? ⟨Fb, 0, none⟩ = some (.slice A fs.length c)) => meth_Swap Fb _ wx hc
  obtain ⟨N, hN⟩ : ∃ N, fs.length = N := ⟨_, rfl⟩
  obtain ⟨R, hR⟩ : ∃ R, ho.dn fs n i = R := ⟨_, rfl⟩
  have H0 : Hid (fs.length = N ∧ FAt w B Fb A c fs ∧ Stays w w (fun k => blkOf A = some k) ∧ ho.Low fs ∧ ho.dn fs n i = R) := Lib.hid ⟨hN, h, Stays.refl _ _, hlow, hR⟩
  rw [hN] at hn hlen hmL hmS
  rw [hR]
  clear h hlow hR hN
  go_enter Try.func31, Try.ntmps31
  go_wp2
  go_loopw [7] (fun s7 wr => ∃ (m : Nat) (gs : List (Nat × hl.T)), s7 = .int .i64 (m : Int) ∧ m ≤ 1000 ∧ Hid (gs.length = N ∧ FAt wr B Fb A c gs ∧ Stays w wr (fun k => blkOf A = some k) ∧ ho.Low gs ∧ ho.dn gs n m = R)) (fun s7 _ => n - (intOf s7).toNat)
  case atStart => exact ⟨i, fs, rfl, hi, H0⟩
  case round =>
    obtain ⟨m, gs, rfl, hm, HG⟩ := hrel
    rename World => wr
    obtain ⟨g1, g2, g3, g4, g5⟩ := HG.out
    obtain ⟨m2, hm2⟩ : ∃ m2 : Nat, m2 = 2 * m := ⟨_, rfl⟩
    obtain ⟨j1, hj1⟩ : ∃ j1 : Nat, j1 = 2 * m + 1 := ⟨_, rfl⟩
    obtain ⟨j2, hj2⟩ : ∃ j2 : Nat, j2 = 2 * m + 2 := ⟨_, rfl⟩
    have hw1 : IntKind.i64.wrap (2 * (m : Int)) = (m2 : Int) := by rw [show 2 * (m : Int) = (m2 : Int) by omega]; exact IntWalk.i64_in _ (by omega)
    have hw2 : IntKind.i64.wrap ((m2 : Int) + 1) = (j1 : Int) := by rw [show (m2 : Int) + 1 = (j1 : Int) by omega]; exact IntWalk.i64_in _ (by omega)
    have hw3 : IntKind.i64.wrap ((j1 : Int) + 1) = (j2 : Int) := by rw [show (j1 : Int) + 1 = (j2 : Int) by omega]; exact IntWalk.i64_in _ (by omega)
    have hj0 : ¬ (j1 : Int) < 0 := by omega
    have f0 := g2.box.get 0
    have l0 := g2.box.lt
    simp only [List.getElem?_toArray, List.getElem?_cons_zero, g1] at f0
    by_cases k1 : j1 < n
    · have q1 : decide ((n : Int) ≤ (j1 : Int)) = false := by simp; omega
      have q1' : decide (n ≤ j1) = false := by simp; omega
      have HJ := Lib.hid (And.intro hj1 hj2)
      have G1 := Lib.hid g1
      have G2 := Lib.hid g2
      have G3 := Lib.hid g3
      have G4 := Lib.hid g4
      have G5 := Lib.hid g5
      clear hm2 hj1 hj2 g1 g2 g3 g4 g5 HG H0
      go_upto_region 6 with (fail)
      go_cut [33] (fun s33 wx => ∃ b : Bool, s33 = .bool b ∧ Hid (b = true ↔ (j2 < n ∧ ho.lt gs j2 j1 = true)) ∧ Hid (Below wr.heap.size wr wx))
      case first =>
        by_cases k2 : j2 < n
        · have q2 : decide ((j2 : Int) < (n : Int)) = true := by simp; omega
          have k2' : (j2 : Int) < (n : Int) := by omega
          have HLS := Lib.hid (forest_Less B A c gs j2 j1 wr G2.out.rt (by rw [G1.out]; omega) (by rw [G1.out]; omega) G4.out)
          rw [G1.out] at HLS
          obtain ⟨b, hb⟩ : ∃ b, ho.lt gs j2 j1 = b := ⟨_, rfl⟩
          have HLB : Hid (decide (ho.ek (gs.getD j2 ho.ez) < ho.ek (gs.getD j1 ho.ez)) = b) := Lib.hid hb
          rw [HLB.out] at HLS
          have HJJ : Hid (b = true ↔ (j2 < n ∧ ho.lt gs j2 j1 = true)) := Lib.hid (by rw [hb]; simp [k2])
          clear hb HLB
          go_wp2_with (first
            | (go_at_call 80; ((with_reducible refine HLS.out.mono ?_); rintro e w4 ⟨rfl, hb4⟩; have HB4 := Lib.hid hb4; clear hb4))
            | fail)
          go_meet
          exact ⟨b, rfl, HJJ, HB4⟩
        · have q2 : decide ((j2 : Int) < (n : Int)) = false := by simp; omega
          have k2' : ¬ (j2 : Int) < (n : Int) := by omega
          have HJJ : Hid (false = true ↔ (j2 < n ∧ ho.lt gs j2 j1 = true)) := Lib.hid (by simp [k2])
          go_wp2
          go_meet
          exact ⟨false, rfl, HJJ, Lib.hid (bself _)⟩
      case rest =>
      obtain ⟨b3, rfl, HB3, HB4⟩ := hcut
      rename World => w4
      have HT : Hid (b3 = true → (if j2 < n ∧ ho.lt gs j2 j1 = true then j2 else j1) = j2) := Lib.hid (fun e => if_pos (HB3.out.1 e))
      have HF : Hid (b3 = false → (if j2 < n ∧ ho.lt gs j2 j1 = true then j2 else j1) = j1) := Lib.hid (fun e => if_neg (fun e2 => by have := HB3.out.2 e2; rw [e] at this; cases this))
      clear HB3
      go_upto_if 33 with (fail)
      go_cut [9] (fun s9 wx => ∃ j : Nat, s9 = .int .i64 (j : Int) ∧ Hid (j = if j2 < n ∧ ho.lt gs j2 j1 = true then j2 else j1) ∧ w4 = wx)
      case first =>
        cases b3 with
        | true =>
          go_wp2
          go_meet
          exact ⟨j2, rfl, Lib.hid (by first | exact (HT.out rfl).symm | exact (HT.out trivial).symm), rfl⟩
        | false =>
          go_wp2
          go_meet
          exact ⟨j1, rfl, Lib.hid (by first | exact (HF.out rfl).symm | exact (HF.out trivial).symm), rfl⟩
      case rest =>
        obtain ⟨j, rfl, HJJ, rfl⟩ := hcut
        have hjn : j < n := by have h1 := HJJ.out; split at h1 <;> omega
        have hjm : m < j := by have h1 := HJJ.out; have h2 := HJ.out; split at h1 <;> omega
        have HGO := Lib.hid (ho.dn_go (fs := gs) (n := n) (i := m) (j := j) (by have := HJ.out; omega) (by have h1 := HJJ.out; rw [HJ.out.1, HJ.out.2] at h1; exact h1))
        have H4 := Lib.hid (G2.out.next HB4.out)
        have HLS := Lib.hid (forest_Less B A c gs j m w4 H4.out.rt (by rw [G1.out]; omega) (by rw [G1.out]; omega) G4.out)
        rw [G1.out] at HLS
        have f4 := H4.out.box.get 0
        have l4 := H4.out.box.lt
        simp only [List.getElem?_toArray, List.getElem?_cons_zero, G1.out] at f4
        obtain ⟨b, hb⟩ : ∃ b, ho.lt gs j m = b := ⟨_, rfl⟩
        have HLB : Hid (decide (ho.ek (gs.getD j ho.ez) < ho.ek (gs.getD m ho.ez)) = b) := Lib.hid hb
        rw [HLB.out] at HLS
        rw [hb] at HGO
        clear hb HLB HJJ HJ
        cases b with
        | false =>
          have G5b : Hid (R = gs) := Lib.hid (by rw [← G5.out, HGO.out]; rfl)
          go_wp2_with (first
            | (go_at_call 80; ((with_reducible refine HLS.out.mono ?_); rintro e w5 ⟨rfl, hb5⟩; have HB5 := Lib.hid hb5; clear hb5))
            | fail)
          go_ret
          exact ⟨⟨_, rfl⟩, by rw [G5b.out]; exact H4.out.next HB5.out, G3.out.comp ((Stays.of_below HB4.out _).comp (Stays.of_below HB5.out _))⟩
        | true =>
          have HSW : Hid (∀ wx, Below w4.heap.size w4 wx → Calls Try.prog 81 #[.slice A N c, .int .i64 (m : Int), .int .i64 (j : Int)] wx fun e w' => e = .returned (.tuple #[]) ∧ RowT w' B A c (hp.swap ho.ez gs m j) ∧ Stays wx w' (fun k => blkOf A = some k)) := Lib.hid (fun wx hb => by
            have h9 := forest_Swap B A c gs m j wx (H4.out.next hb).rt (by rw [G1.out]; omega) (by rw [G1.out]; omega)
            rw [G1.out] at h9
            exact h9)
          go_wp2_with (first
            | (go_at_call 80; ((with_reducible refine HLS.out.mono ?_); rintro e w5 ⟨rfl, hb5⟩; have HB5 := Lib.hid hb5; have h5 := H4.out.next hb5; have f5 := h5.box.get 0; have l5 := h5.box.lt; (simp only [List.getElem?_toArray, List.getElem?_cons_zero, G1.out] at f5); have H5 := Lib.hid h5; clear hb5 h5))
            | (go_at_call 81; ((with_reducible refine (HSW.out _ HB5.out).mono ?_); rintro e w6 ⟨rfl, r6, s6⟩; have R6 := Lib.hid r6; have S6 := Lib.hid s6; clear r6 s6))
            | fail)
          go_roundw
          case rel =>
            have hpm := hp.swap_perm ho.ez (l := gs) (i := m) (j := j) (by rw [G1.out]; omega) (by rw [G1.out]; omega)
            refine ⟨j, hp.swap ho.ez gs m j, rfl, by omega, Lib.hid ⟨by rw [hp.swap_length]; exact G1.out, H5.out.swapped R6.out (hp.swap_length ..) S6.out, G3.out.comp ((Stays.of_below (bnext HB4.out HB5.out) _).comp S6.out), G4.out.perm hpm, ?_⟩⟩
            rw [← G5.out, HGO.out]
            rfl
          case measure => simp [intOf]; omega
    · have q1 : decide ((n : Int) ≤ (j1 : Int)) = true := by simp; omega
      have q1' : decide (n ≤ j1) = true := by simp; omega
      rw [ho.dn_stop (by omega)] at g5
      have G2 : Hid (FAt wr B Fb A c R ∧ Stays w wr (fun k => blkOf A = some k)) := Lib.hid ⟨g5 ▸ g2, g3⟩
      clear hm2 hj1 hj2 g1 g2 g3 g4 g5 HG H0
      go_wp2
      go_ret
      exact ⟨⟨_, rfl⟩, G2.out⟩
end Go.Proofs.Ytkbmpppendelcaa
