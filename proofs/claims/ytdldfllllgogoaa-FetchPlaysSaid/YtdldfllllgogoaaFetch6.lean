/- Package fetch: on. No condition. -/
import Derived.Test.YtdldfllllgogoaaFetch5
import Derived.Deep.LoopGhost
namespace Go.Proofs.Ytdldfllllgogoaa
open Go.RowKit
set_option linter.unusedSimpArgs false

theorem ft.fill_go {s : ft.St} {l : List Want} (h : ft.may s = true) : ft.fill (6 - s.out.length) s l = ft.fill (6 - (s.out ++ [(⟨s.front, 100⟩ : Want)]).length) { s with out := s.out ++ [⟨s.front, 100⟩], front := s.front + 100 } (l ++ [⟨s.front, 100⟩]) := by
  have h1 : s.out.length < 6 := by
    unfold ft.may at h
    rw [Bool.and_eq_true] at h
    exact of_decide_eq_true h.1
  obtain ⟨m, hm⟩ : ∃ m, 6 - s.out.length = m + 1 := ⟨6 - s.out.length - 1, by omega⟩
  rw [hm, ft.fill, if_pos h]
  congr 1
  rw [List.length_append, List.length_singleton]
  omega
theorem ft.fill_stop {s : ft.St} {l : List Want} (h : ft.may s = false) : ∀ n, ft.fill n s l = (s, l)
  | 0 => rfl
  | n + 1 => by rw [ft.fill, h]; rfl
/-- what is known of the fetcher ahead of a call -/
structure ft.Ok (s : ft.St) : Prop where
  few : s.out.length ≤ 6
  f0 : 0 ≤ s.front ∧ s.front ≤ 2148
  e0 : -1 ≤ s.end_ ∧ s.end_ ≤ 2148
  len : s.data.length ≤ 2148
theorem ft.Ok.step {s : ft.St} (h : ft.Ok s) (hm : ft.may s = true) : ft.Ok { s with out := s.out ++ [⟨s.front, 100⟩], front := s.front + 100 } := by
  unfold ft.may at hm
  simp only [Bool.and_eq_true, Bool.or_eq_true, decide_eq_true_eq] at hm
  obtain ⟨m1, m2, m3⟩ := hm
  obtain ⟨h1, h2, h3, h4⟩ := h
  exact ⟨by simp; omega, by show 0 ≤ s.front + 100 ∧ s.front + 100 ≤ 2148; omega, h3, h4⟩
/-- the answer N is ready -/
structure NexOut (w : World) (BN BE N : Nat) (x : Next) (A : Option Addr) (c : Nat) (E : Option Addr) (ec : Nat) : Prop where
  lo : BN ≤ N
  box : Blk4 w N 30 (.int .i64 0) (.slice A x.wants.length c) (.bool x.done) (.slice E x.data.length ec)
  out : Own w BN 33 2 A x.wants.length c (wantCells x.wants)
  data : Own w BE 5 1 E x.data.length ec (x.data.map fun b => .int .u8 b.toNat)
def OnRes (w : World) (B BN F N : Nat) (s : ft.St) (l : List Want) (A A' : Option Addr) (D : Option Addr) (dc : Nat) (w' : World) : Prop :=
  ∃ A1 c1 A2 c2 E ec, FetAt w' B F (ft.on s l).1 A1 c1 D dc ∧ NexOut w' BN w.heap.size N (ft.on s l).2 A2 c2 E ec ∧ Far A1 A2 ∧ Stays w w' (fun k => k = F ∨ k = N ∨ blkOf A = some k ∨ blkOf A' = some k) ∧
    (blkOf A1 = blkOf A ∨ ∃ k, w.heap.size ≤ k ∧ blkOf A1 = some k) ∧ (blkOf A2 = blkOf A' ∨ ∃ k, w.heap.size ≤ k ∧ blkOf A2 = some k)
theorem ft.anyB_done (s : ft.St) : ft.done s = (decide (0 ≤ s.end_) && !(ft.anyB s.out s.end_)) := rfl

theorem FetAt.setFront {w : World} {B F : Nat} {s : ft.St} {A D : Option Addr} {c dc : Nat} (h : FetAt w B F s A c D dc) (v : Int) : FetAt (w.setCell ⟨F, 1, none⟩ (.int .i64 v)) B F { s with front := v } A c D dc :=
  ⟨h.lo, h.box.set1 _, h.out.setCell (h.box.apart h.out wantNeFet) _, h.data.setCell (h.box.apart h.data u8NeFet) _⟩
theorem on_step {w1 wr wa w3 : World} {B BN F N : Nat} {s s' : ft.St} {l l' : List Want} {A A' A1 A2 D : Option Addr} {dc : Nat} {No : Nat → Prop}
    (hNo : No = fun k => k = F ∨ k = N ∨ blkOf A = some k ∨ blkOf A' = some k)
    (hst : Stays w1 wr No) (hbA : blkOf A1 = blkOf A ∨ ∃ k, w1.heap.size ≤ k ∧ blkOf A1 = some k) (hbA' : blkOf A2 = blkOf A' ∨ ∃ k, w1.heap.size ≤ k ∧ blkOf A2 = some k)
    (hfl : ft.fill (6 - s'.out.length) s' l' = ft.fill (6 - s.out.length) s l) (ho : ft.Ok s') (hm : ft.may s' = true) (hll : l'.length + (6 - s'.out.length) ≤ 16)
    (hb : Below wr.heap.size wr wa) (har : AskRes wa B BN F N s' l' A1 A2 D dc ⟨s'.front, 100⟩ w3) :
    ∃ A3 c3 A4 c4, FetAt (w3.setCell ⟨F, 1, none⟩ (.int .i64 (s'.front + 100))) B F { s' with out := s'.out ++ [⟨s'.front, 100⟩], front := s'.front + 100 } A3 c3 D dc ∧ NexAt (w3.setCell ⟨F, 1, none⟩ (.int .i64 (s'.front + 100))) BN N (l' ++ [⟨s'.front, 100⟩]) A4 c4 ∧ Far A3 A4 ∧
      Stays w1 (w3.setCell ⟨F, 1, none⟩ (.int .i64 (s'.front + 100))) No ∧ (blkOf A3 = blkOf A ∨ ∃ k, w1.heap.size ≤ k ∧ blkOf A3 = some k) ∧ (blkOf A4 = blkOf A' ∨ ∃ k, w1.heap.size ≤ k ∧ blkOf A4 = some k) ∧
      ft.fill (6 - (s'.out ++ [(⟨s'.front, 100⟩ : Want)]).length) { s' with out := s'.out ++ [⟨s'.front, 100⟩], front := s'.front + 100 } (l' ++ [⟨s'.front, 100⟩]) = ft.fill (6 - s.out.length) s l ∧
      ft.Ok { s' with out := s'.out ++ [⟨s'.front, 100⟩], front := s'.front + 100 } ∧ (l' ++ [(⟨s'.front, 100⟩ : Want)]).length + (6 - (s'.out ++ [(⟨s'.front, 100⟩ : Want)]).length) ≤ 16 := by
  obtain ⟨A3, c3, A4, c4, e1, e2, e3, e4, e5, e6⟩ := har
  have h1 : s'.out.length < 6 := by
    unfold ft.may at hm
    rw [Bool.and_eq_true] at hm
    exact of_decide_eq_true hm.1
  have hsz := hst.size
  have hsz2 := hb.size
  have hup : ∀ {X Y Z : Option Addr}, (blkOf X = blkOf Y ∨ ∃ k, wa.heap.size ≤ k ∧ blkOf X = some k) → (blkOf Y = blkOf Z ∨ ∃ k, w1.heap.size ≤ k ∧ blkOf Y = some k) → (blkOf X = blkOf Z ∨ ∃ k, w1.heap.size ≤ k ∧ blkOf X = some k) := by
    intro X Y Z h k
    rcases h with h | ⟨g, h2, h3⟩
    · rw [h]; exact k
    · exact .inr ⟨g, by omega, h3⟩
  refine ⟨A3, c3, A4, c4, e1.setFront _, e2.stays (Stays.set w3 F 1 _) (fun e => e1.box.two e2.box fetNeNext e.symm) (fun k hk e => e1.box.apart e2.out wantNeFet (e ▸ hk)), e3, ?_, hup e5 hbA, hup e6 hbA', by rw [← hfl]; exact (ft.fill_go hm).symm, ho.step hm, by simp; omega⟩
  subst hNo
  refine (hst.trans (Stays.of_below hb (fun _ => False)) (fun _ _ h => h.elim)).trans (e4.trans (Stays.set w3 F 1 _) (fun k _ h => .inl h)) ?_
  intro k hk h
  rcases h with h | h | h | h
  · exact .inl h
  · exact .inr (.inl h)
  · rcases hbA with e | ⟨g, h2, h3⟩
    · exact .inr (.inr (.inl (e ▸ h)))
    · rw [h] at h3; cases h3; omega
  · rcases hbA' with e | ⟨g, h2, h3⟩
    · exact .inr (.inr (.inr (e ▸ h)))
    · rw [h] at h3; cases h3; omega
theorem NexAt.out0 {w : World} {BN BE N : Nat} {l : List Want} {A : Option Addr} {c : Nat} (h : NexAt w BN N l A c) : NexOut w BN BE N ⟨0, l, false, []⟩ A c none 0 :=
  ⟨h.lo, h.box, h.out, Own.nil _ _ _ _⟩
theorem ft.on_stop {s s' : ft.St} {l l' : List Want} (hm : ft.may s' = false) (hfl : ft.fill (6 - s'.out.length) s' l' = ft.fill (6 - s.out.length) s l) (hd : ft.done s' = false) : ft.on s l = (s', ⟨0, l', false, []⟩) := by
  unfold ft.on
  rw [← hfl, ft.fill_stop hm]
  simp only [hd, Bool.false_eq_true, if_false]
theorem ft.on_done {s s' : ft.St} {l l' : List Want} (hm : ft.may s' = false) (hfl : ft.fill (6 - s'.out.length) s' l' = ft.fill (6 - s.out.length) s l) (hd : ft.done s' = true) : ft.on s l = (s', ⟨0, l', true, s'.data.take (min s'.end_.toNat s'.data.length)⟩) := by
  unfold ft.on
  rw [← hfl, ft.fill_stop hm]
  simp only [hd, if_true]
theorem on_end0 {w w2 wf : World} {B BN F N : Nat} {s s' : ft.St} {l l' : List Want} {A A' A1 A2 D : Option Addr} {c1 c2 dc : Nat} (hF : FetAt w2 B F s' A1 c1 D dc) (hN : NexAt w2 BN N l' A2 c2) (hfr : Far A1 A2) (hb : Below w2.heap.size w2 wf)
    (hst : Stays w w2 (fun k => k = F ∨ k = N ∨ blkOf A = some k ∨ blkOf A' = some k)) (hbA : (blkOf A1 = blkOf A ∨ ∃ k, w.heap.size ≤ k ∧ blkOf A1 = some k) ∧ (blkOf A2 = blkOf A' ∨ ∃ k, w.heap.size ≤ k ∧ blkOf A2 = some k))
    (hm : ft.may s' = false) (hfl : ft.fill (6 - s'.out.length) s' l' = ft.fill (6 - s.out.length) s l) (hd : ft.done s' = false) : OnRes w B BN F N s l A A' D dc wf := by
  unfold OnRes
  rw [ft.on_stop hm hfl hd]
  exact ⟨A1, c1, A2, c2, none, 0, hF.stays (Stays.of_below hb (fun _ => False)) id (fun _ _ => id) (fun _ _ => id), (hN.stays (Stays.of_below hb (fun _ => False)) id (fun _ _ => id)).out0, hfr, hst.trans (Stays.of_below hb (fun _ => False)) (fun _ _ h => h.elim), hbA.1, hbA.2⟩
theorem on_end1 {w w2 wf : World} {B BN F N m ec : Nat} {s s' : ft.St} {l l' : List Want} {A A' A1 A2 D E : Option Addr} {c1 c2 dc : Nat} (hF : FetAt w2 B F s' A1 c1 D dc) (hN : NexAt w2 BN N l' A2 c2) (hfr : Far A1 A2) (hsN : Stays w2 wf (fun k => k = N))
    (hst : Stays w w2 (fun k => k = F ∨ k = N ∨ blkOf A = some k ∨ blkOf A' = some k)) (hbA : (blkOf A1 = blkOf A ∨ ∃ k, w.heap.size ≤ k ∧ blkOf A1 = some k) ∧ (blkOf A2 = blkOf A' ∨ ∃ k, w.heap.size ≤ k ∧ blkOf A2 = some k))
    (hm : ft.may s' = false) (hfl : ft.fill (6 - s'.out.length) s' l' = ft.fill (6 - s.out.length) s l) (hd : ft.done s' = true) (hme : m = min s'.end_.toNat s'.data.length)
    (hbx : Blk4 wf N 30 (.int .i64 0) (.slice A2 l'.length c2) (.bool true) (.slice E m ec)) (hE : Own wf w.heap.size 5 1 E m ec ((s'.data.take m).map fun b => .int .u8 b.toNat)) : OnRes w B BN F N s l A A' D dc wf := by
  unfold OnRes
  rw [ft.on_done hm hfl hd]
  subst hme
  have hl : (s'.data.take (min s'.end_.toNat s'.data.length)).length = min s'.end_.toNat s'.data.length := by rw [List.length_take]; omega
  refine ⟨A1, c1, A2, c2, E, ec, hF.stays hsN (fun e => hF.box.two hN.box fetNeNext e) (fun k hk e => hN.box.apart hF.out wantNeNext (e ▸ hk)) (fun k hk e => hN.box.apart hF.data u8NeNext (e ▸ hk)), ⟨hN.lo, ?_, hN.out.stays hsN (fun k hk e => hN.box.apart hN.out wantNeNext (e ▸ hk)), ?_⟩, hfr, hst.trans hsN (fun _ _ h => .inr (.inl h)), hbA.1, hbA.2⟩
  · show Blk4 wf N _ _ _ _ (.slice E (s'.data.take (min s'.end_.toNat s'.data.length)).length ec)
    rw [hl]; exact hbx
  · show Own wf _ _ 1 E (s'.data.take (min s'.end_.toNat s'.data.length)).length ec _
    rw [hl]; exact hE
theorem Cells.take {w : World} {A : Option Addr} {xs : List Value} (h : Cells w A xs) (n : Nat) : Cells w A (xs.take n) := by
  rcases h with rfl | ⟨b, o, rfl, hc⟩
  · exact .inl (by simp)
  · refine .inr ⟨b, o, rfl, fun j u hu => hc j u ?_⟩
    rw [List.getElem?_take] at hu
    split at hu
    · exact hu
    · cases hu

set_option maxRecDepth 100000 in
set_option maxHeartbeats 2000000 in
theorem fetch_on (s : ft.St) (l : List Want) (A A' D : Option Addr) (c c' dc B BN F N : Nat) (w : World) (h : FetAt w B F s A c D dc) (hn : NexAt w BN N l A' c') (hf : Far A A') (hok : ft.Ok s) (hl2 : l.length ≤ 10) :
    Calls Try.prog 17 #[.pointer (some ⟨F, 0, none⟩), .pointer (some ⟨N, 0, none⟩)] w fun e w' => e = .returned (.tuple #[]) ∧ OnRes w B BN F N s l A A' D dc w' := by
  obtain ⟨w1, hw1⟩ : ∃ w1, w1 = w.alloc (.cells #[.pointer (some ⟨F, 0, none⟩)] 60) := ⟨_, rfl⟩
  have hb1 : Below w.heap.size w w1 := by rw [hw1]; exact balloc (bself w) _
  have hs1 : w1.heap.size = w.heap.size + 1 := by rw [hw1]; simp
  have HS1 := Lib.hid hs1
  have hx0 : w1.cell? ⟨w.heap.size, 0, none⟩ = some (.pointer (some ⟨F, 0, none⟩)) := by rw [hw1]; simp [go_sem]
  have HX0 := Lib.hid hx0
  have hlF : F < w.heap.size := h.box.lt
  have hlN : N < w.heap.size := hn.box.lt
  have HAW : Hid (∀ k, blkOf A = some k → k < w.heap.size) := Lib.hid (fun k hk => (h.out.lt k hk).2)
  have HAW' : Hid (∀ k, blkOf A' = some k → k < w.heap.size) := Lib.hid (fun k hk => (hn.out.lt k hk).2)
  have HFW : Hid (FetAt w1 B F s A c D dc) := Lib.hid (h.stays (Stays.of_below hb1 (fun _ => False)) id (fun _ _ => id) (fun _ _ => id))
  have HNW : Hid (NexAt w1 BN N l A' c') := Lib.hid (hn.stays (Stays.of_below hb1 (fun _ => False)) id (fun _ _ => id))
  have HB1 := Lib.hid hb1
  have HFAR := Lib.hid hf
  have HOK := Lib.hid hok
  have hX1 : w.heap.size < w1.heap.size := by omega
  clear h hn hf hok hs1 hx0 hb1
  go_enter Try.func17, Try.ntmps17
  go_wp2
  rw [← hw1]
  clear hw1
  go_loopg [5] (6 - s.out.length) (fun gn _ wr => ∃ (s' : ft.St) (l' : List Want) (A1 : Option Addr) (c1 : Nat) (A2 : Option Addr) (c2 : Nat), Hid (FetAt wr B F s' A1 c1 D dc ∧ NexAt wr BN N l' A2 c2 ∧ Far A1 A2 ∧ Stays w1 wr (fun k => k = F ∨ k = N ∨ blkOf A = some k ∨ blkOf A' = some k) ∧
      (blkOf A1 = blkOf A ∨ ∃ k, w1.heap.size ≤ k ∧ blkOf A1 = some k) ∧ (blkOf A2 = blkOf A' ∨ ∃ k, w1.heap.size ≤ k ∧ blkOf A2 = some k) ∧ ft.fill (6 - s'.out.length) s' l' = ft.fill (6 - s.out.length) s l ∧ ft.Ok s' ∧ gn = 6 - s'.out.length ∧ l'.length + (6 - s'.out.length) ≤ 16))
  case atStart => exact ⟨s, l, A, c, A', c', Lib.hid ⟨HFW.out, HNW.out, HFAR.out, Stays.refl _ _, .inl rfl, .inl rfl, rfl, HOK.out, rfl, by omega⟩⟩
  case round =>
    obtain ⟨s', l', A1, c1, A2, c2, HR⟩ := hrel
    rename World => wr
    obtain ⟨hF, hN, hfr, hst, hbA, hbA', hfl, ho, hgn, hll⟩ := HR.out
    have hc0 := hF.box.cell0
    have hc1 := hF.box.cell1
    have hc2 := hF.box.cell2
    have hc3 := hF.box.cell3
    have hlo := ho.few
    have hf0 := ho.f0
    have he0 := ho.e0
    have hld := ho.len
    have hbx : wr.cell? ⟨w.heap.size, 0, none⟩ = some (.pointer (some ⟨F, 0, none⟩)) := (World.cell?_of_block (hst.block w.heap.size hX1 (fun h => by
      rcases h with h | h | h | h
      · omega
      · omega
      · have := HAW.out _ h; omega
      · have := HAW'.out _ h; omega))).trans HX0.out
    have hlr : w1.heap.size ≤ wr.heap.size := hst.size
    have hlFr : F < wr.heap.size := by omega
    have hlXr : w.heap.size < wr.heap.size := by omega
    have HM : Hid (ft.may s' = (decide (s'.out.length < 6) && (decide (s'.front ≤ 2048) && (decide (s'.end_ < 0) || decide (s'.front < s'.end_))))) := Lib.hid rfl
    have HGN := Lib.hid hgn
    have HFF := Lib.hid hF
    have HNN := Lib.hid hN
    clear hF hN hfr hst hbA hbA' hfl ho hgn HFW HNW HX0
    have HFS : Hid (∀ wx, Below wr.heap.size wr wx → FetAt wx B F s' A1 c1 D dc) := Lib.hid (fun wx hb => HFF.out.stays (Stays.of_below hb (fun _ => False)) id (fun _ _ => id) (fun _ _ => id))
    have HNS : Hid (∀ wx, Below wr.heap.size wr wx → NexAt wx BN N l' A2 c2) := Lib.hid (fun wx hb => HNN.out.stays (Stays.of_below hb (fun _ => False)) id (fun _ _ => id))
    have HBXS : Hid (∀ wx, Below wr.heap.size wr wx → wx.cell? ⟨w.heap.size, 0, none⟩ = some (.pointer (some ⟨F, 0, none⟩))) := Lib.hid (fun wx hb => (hb.cell (p := ⟨w.heap.size, 0, none⟩) hlXr).trans hbx)
    have HNA : Hid (∀ k, k = F ∨ k = N ∨ blkOf A1 = some k ∨ blkOf A2 = some k → k ≠ w.heap.size) := Lib.hid (fun k h e => by
      rcases h with h | h | h | h
      · omega
      · omega
      · rcases HR.out.2.2.2.2.1 with h2 | ⟨g, h2, h3⟩
        · have := HAW.out k (h2 ▸ h); omega
        · rw [h] at h3; cases h3; omega
      · rcases HR.out.2.2.2.2.2.1 with h2 | ⟨g, h2, h3⟩
        · have := HAW'.out k (h2 ▸ h); omega
        · rw [h] at h3; cases h3; omega)
    clear HFF HNN HAW HAW'
    go_upto_region 1 with fail
    go_cut [35] (fun t wx => ∃ b, t = .bool b ∧ Hid (b = ft.may s' ∧ Below wr.heap.size wr wx))
    case first =>
      have HE : Hid (∀ wx, Below wr.heap.size wr wx → ∀ b, b = ft.may s' → Hid (b = ft.may s' ∧ Below wr.heap.size wr wx)) := Lib.hid (fun wx hb b h => Lib.hid ⟨h, hb⟩)
      clear hll HR HFS HNS HBXS HGN
      by_cases h1 : s'.out.length < 6
      · have d1 : decide (s'.out.length < 6) = true := decide_eq_true h1
        have d1' : decide ((s'.out.length : Int) < 6) = true := decide_eq_true (by omega)
        by_cases h2 : s'.front ≤ 2048
        · have d2 : decide (s'.front ≤ 2048) = true := decide_eq_true h2
          by_cases h3 : s'.end_ < 0
          · have d3 : decide (s'.end_ < 0) = true := decide_eq_true h3
            have HM2 : Hid (true = ft.may s') := Lib.hid (by rw [HM.out, d1, d2, d3]; rfl)
            clear HM
            go_quiet (fail)
            go_wp2
            go_meet
            exact ⟨true, rfl, HE.out _ (by repeat (first | (with_reducible exact Below.refl _ _) | (with_reducible assumption) | (with_reducible refine bset ?_ ?_ _) | (with_reducible refine balloc ?_ _) | (with_reducible refine Below.drew ?_) | (with_reducible refine bdrewN ?_ _) | (with_reducible refine bnext ?_ (by with_reducible assumption)) | exact Nat.le_refl _ | (simp; done) | omega | (simp; omega))) _ HM2.out⟩
          · have d3 : decide (s'.end_ < 0) = false := decide_eq_false h3
            by_cases h4 : s'.front < s'.end_
            · have d4 : decide (s'.front < s'.end_) = true := decide_eq_true h4
              have HM2 : Hid (true = ft.may s') := Lib.hid (by rw [HM.out, d1, d2, d3, d4]; rfl)
              clear HM
              go_quiet (fail)
              go_wp2
              go_meet
              exact ⟨true, rfl, HE.out _ (by repeat (first | (with_reducible exact Below.refl _ _) | (with_reducible assumption) | (with_reducible refine bset ?_ ?_ _) | (with_reducible refine balloc ?_ _) | (with_reducible refine Below.drew ?_) | (with_reducible refine bdrewN ?_ _) | (with_reducible refine bnext ?_ (by with_reducible assumption)) | exact Nat.le_refl _ | (simp; done) | omega | (simp; omega))) _ HM2.out⟩
            · have d4 : decide (s'.front < s'.end_) = false := decide_eq_false h4
              have HM2 : Hid (false = ft.may s') := Lib.hid (by rw [HM.out, d1, d2, d3, d4]; rfl)
              clear HM
              go_quiet (fail)
              go_wp2
              go_meet
              exact ⟨false, rfl, HE.out _ (by repeat (first | (with_reducible exact Below.refl _ _) | (with_reducible assumption) | (with_reducible refine bset ?_ ?_ _) | (with_reducible refine balloc ?_ _) | (with_reducible refine Below.drew ?_) | (with_reducible refine bdrewN ?_ _) | (with_reducible refine bnext ?_ (by with_reducible assumption)) | exact Nat.le_refl _ | (simp; done) | omega | (simp; omega))) _ HM2.out⟩
        · have d2 : decide (s'.front ≤ 2048) = false := decide_eq_false h2
          have HM2 : Hid (false = ft.may s') := Lib.hid (by rw [HM.out, d1, d2]; rfl)
          clear HM
          go_quiet (fail)
          go_wp2
          go_meet
          exact ⟨false, rfl, HE.out _ (by repeat (first | (with_reducible exact Below.refl _ _) | (with_reducible assumption) | (with_reducible refine bset ?_ ?_ _) | (with_reducible refine balloc ?_ _) | (with_reducible refine Below.drew ?_) | (with_reducible refine bdrewN ?_ _) | (with_reducible refine bnext ?_ (by with_reducible assumption)) | exact Nat.le_refl _ | (simp; done) | omega | (simp; omega))) _ HM2.out⟩
      · have d1 : decide (s'.out.length < 6) = false := decide_eq_false h1
        have d1' : decide ((s'.out.length : Int) < 6) = false := decide_eq_false (by omega)
        have HM2 : Hid (false = ft.may s') := Lib.hid (by rw [HM.out, d1]; rfl)
        clear HM
        go_quiet (fail)
        go_wp2
        go_meet
        exact ⟨false, rfl, HE.out _ (by repeat (first | (with_reducible exact Below.refl _ _) | (with_reducible assumption) | (with_reducible refine bset ?_ ?_ _) | (with_reducible refine balloc ?_ _) | (with_reducible refine Below.drew ?_) | (with_reducible refine bdrewN ?_ _) | (with_reducible refine bnext ?_ (by with_reducible assumption)) | exact Nat.le_refl _ | (simp; done) | omega | (simp; omega))) _ HM2.out⟩
    case rest =>
      obtain ⟨b, rfl, HBM⟩ := hcut
      rename World => w2
      have HF2 := Lib.hid (HFS.out w2 HBM.out.2)
      have HN2 := Lib.hid (HNS.out w2 HBM.out.2)
      have hx2 := HBXS.out w2 HBM.out.2
      have hl2 : wr.heap.size ≤ w2.heap.size := HBM.out.2.size
      have hlF2 : F < w2.heap.size := by omega
      have hlX2 : w.heap.size < w2.heap.size := by omega
      clear hc0 hc1 hc2 hc3 hbx HBXS
      have hc0 := HF2.out.box.cell0
      have hc1 := HF2.out.box.cell1
      have hc2 := HF2.out.box.cell2
      have hc3 := HF2.out.box.cell3
      cases b with
      | true =>
        have HMT : Hid (ft.may s' = true) := Lib.hid HBM.out.1.symm
        have HFB : Hid (∀ wx, Below w2.heap.size w2 wx → FetAt wx B F s' A1 c1 D dc) := Lib.hid (fun wx hb => HFS.out wx (bnext HBM.out.2 hb))
        have HNB : Hid (∀ wx, Below w2.heap.size w2 wx → NexAt wx BN N l' A2 c2) := Lib.hid (fun wx hb => HNS.out wx (bnext HBM.out.2 hb))
        have HKP : Hid (∀ wx wy, Below w2.heap.size w2 wx → AskRes wx B BN F N s' l' A1 A2 D dc ⟨s'.front, 100⟩ wy → wy.cell? ⟨w.heap.size, 0, none⟩ = some (.pointer (some ⟨F, 0, none⟩)) ∧ wy.cell? ⟨F, 1, none⟩ = some (.int .i64 s'.front) ∧ wy.frozen? ⟨F, 1, none⟩ = false ∧ Hid (Below wr.heap.size wr wx)) := Lib.hid (fun wx wy hb har => by
          obtain ⟨A3, c3, A4, c4, e1, e2, e3, e4, e5, e6⟩ := har
          refine ⟨?_, e1.box.cell1, e1.box.frozen 1, Lib.hid (bnext HBM.out.2 hb)⟩
          rw [World.cell?_of_block (e4.block w.heap.size (Nat.lt_of_lt_of_le hlX2 hb.size) (fun h => HNA.out _ h rfl)), hb.cell (p := ⟨w.heap.size, 0, none⟩) hlX2]
          exact hx2)
        clear hc0 hc2 hc3 HM HFS HNS
        go_upto_region 2 with fail
        go_region_held3 (fun w' => w'.cell? ⟨w.heap.size, 0, none⟩ = some (.pointer (some ⟨F, 0, none⟩)) ∧ w'.cell? ⟨F, 1, none⟩ = some (.int .i64 s'.front)) ((go_keep; done))
          (first
            | (go_at_call 33; refine (fetch_ask s' l' ⟨s'.front, 100⟩ A1 A2 D c1 c2 dc B BN F N _ (HFB.out _ (by repeat (first | (with_reducible exact Below.refl _ _) | (with_reducible assumption) | (with_reducible refine bset ?_ ?_ _) | (with_reducible refine balloc ?_ _) | (with_reducible refine Below.drew ?_) | (with_reducible refine bdrewN ?_ _) | (with_reducible refine bnext ?_ (by with_reducible assumption)) | exact Nat.le_refl _ | (simp; done) | omega | (simp; omega)))) (HNB.out _ (by repeat (first | (with_reducible exact Below.refl _ _) | (with_reducible assumption) | (with_reducible refine bset ?_ ?_ _) | (with_reducible refine balloc ?_ _) | (with_reducible refine Below.drew ?_) | (with_reducible refine bdrewN ?_ _) | (with_reducible refine bnext ?_ (by with_reducible assumption)) | exact Nat.le_refl _ | (simp; done) | omega | (simp; omega)))) HR.out.2.2.1 (by omega) (by omega)).mono ?_; rintro e w3 ⟨rfl, HAR⟩; have hkp := HKP.out _ w3 (by exact (by repeat (first | (with_reducible exact Below.refl _ _) | (with_reducible assumption) | (with_reducible refine bset ?_ ?_ _) | (with_reducible refine balloc ?_ _) | (with_reducible refine Below.drew ?_) | (with_reducible refine bdrewN ?_ _) | (with_reducible refine bnext ?_ (by with_reducible assumption)) | exact Nat.le_refl _ | (simp; done) | omega | (simp; omega)))) HAR; have hx3 := hkp.1; have hf3 := hkp.2.1; have hz3 := hkp.2.2.1; have hbz3 := hkp.2.2.2; have HAR' := Lib.hid HAR; clear HAR hkp)
            | fail)
        all_goals
          obtain ⟨A3, c3, A4, c4, hre⟩ := on_step (No := fun k => k = F ∨ k = N ∨ blkOf A = some k ∨ blkOf A' = some k) rfl HR.out.2.2.2.1 HR.out.2.2.2.2.1 HR.out.2.2.2.2.2.1 HR.out.2.2.2.2.2.2.1 HR.out.2.2.2.2.2.2.2.1 HMT.out hll hbz3.out HAR'.out
          have HRE := Lib.hid hre
          clear hre HR
          go_wp2
          go_roundg (6 - (s'.out ++ [(⟨s'.front, 100⟩ : Want)]).length)
          case measure => have := HGN.out; simp only [List.length_append, List.length_singleton]; have h1 : s'.out.length < 6 := (by have := HMT.out; unfold ft.may at this; rw [Bool.and_eq_true] at this; exact of_decide_eq_true this.1); omega
          case rel => exact ⟨_, _, A3, c3, A4, c4, Lib.hid ⟨HRE.out.1, HRE.out.2.1, HRE.out.2.2.1, HRE.out.2.2.2.1, HRE.out.2.2.2.2.1, HRE.out.2.2.2.2.2.1, HRE.out.2.2.2.2.2.2.1, HRE.out.2.2.2.2.2.2.2.1, rfl, HRE.out.2.2.2.2.2.2.2.2⟩⟩
      | false =>
        have HMT : Hid (ft.may s' = false) := Lib.hid HBM.out.1.symm
        have HSW : Hid (Stays w w2 (fun k => k = F ∨ k = N ∨ blkOf A = some k ∨ blkOf A' = some k)) := Lib.hid ((Stays.of_below HB1.out (fun _ => False)).mono (fun _ _ h => h.elim) |>.trans (HR.out.2.2.2.1.trans (Stays.of_below HBM.out.2 (fun _ => False)) (fun _ _ h => h.elim)) (fun _ _ h => h))
        have HBA : Hid ((blkOf A1 = blkOf A ∨ ∃ k, w.heap.size ≤ k ∧ blkOf A1 = some k) ∧ (blkOf A2 = blkOf A' ∨ ∃ k, w.heap.size ≤ k ∧ blkOf A2 = some k)) := Lib.hid (by
          obtain ⟨_, _, _, _, h1, h2, _⟩ := HR.out
          exact ⟨h1.imp id (fun ⟨k, a, b⟩ => ⟨k, by omega, b⟩), h2.imp id (fun ⟨k, a, b⟩ => ⟨k, by omega, b⟩)⟩)
        have HFL := Lib.hid HR.out.2.2.2.2.2.2.1
        have HFR := Lib.hid HR.out.2.2.1
        clear HM HFS HNS HR HBM HGN HNA HB1 hc1
        by_cases he : 0 ≤ s'.end_
        · have de : decide (0 ≤ s'.end_) = true := decide_eq_true he
          have HC := Lib.hid (fun wx (hb : Below w2.heap.size w2 wx) => fetch_contains s'.out s'.end_ A1 c1 B F w.heap.size _ _ _ wx (HF2.out.out.next hb) (HF2.out.box.next hb) ((hb.cell (p := ⟨w.heap.size, 0, none⟩) hlX2).trans hx2) (Nat.lt_of_lt_of_le hlX2 hb.size) (by omega))
          cases hq : ft.anyB s'.out s'.end_ with
          | true =>
            have HD : Hid (ft.done s' = false) := Lib.hid (by rw [ft.anyB_done, hq]; simp)
            rw [hq] at HC
            clear hq
            go_wp2_with (go_at_call 35; refine (HC.out _ (by exact (by repeat (first | (with_reducible exact Below.refl _ _) | (with_reducible assumption) | (with_reducible refine bset ?_ ?_ _) | (with_reducible refine balloc ?_ _) | (with_reducible refine Below.drew ?_) | (with_reducible refine bdrewN ?_ _) | (with_reducible refine bnext ?_ (by with_reducible assumption)) | exact Nat.le_refl _ | (simp; done) | omega | (simp; omega))))).mono ?_; rintro e w3 ⟨rfl, hb3⟩; have HB3 := Lib.hid hb3; clear hb3)
            go_end0
            exact ⟨rfl, on_end0 HF2.out HN2.out HFR.out HB3.out HSW.out HBA.out HMT.out HFL.out HD.out⟩
          | false =>
            have HD : Hid (ft.done s' = true) := Lib.hid (by rw [ft.anyB_done, hq, de]; rfl)
            rw [hq] at HC
            clear hq
            have hcap := HF2.out.data.cap
            go_upto_region 6 with (first
              | (go_at_call 35; refine (HC.out _ (by exact (by repeat (first | (with_reducible exact Below.refl _ _) | (with_reducible assumption) | (with_reducible refine bset ?_ ?_ _) | (with_reducible refine balloc ?_ _) | (with_reducible refine Below.drew ?_) | (with_reducible refine bdrewN ?_ _) | (with_reducible refine bnext ?_ (by with_reducible assumption)) | exact Nat.le_refl _ | (simp; done) | omega | (simp; omega))))).mono ?_; rintro e w3 ⟨rfl, hb3⟩; have HB3 : Hid (Below w2.heap.size w2 w3) := Lib.hid (by exact (by repeat (first | (with_reducible exact Below.refl _ _) | (with_reducible assumption) | (with_reducible refine bset ?_ ?_ _) | (with_reducible refine balloc ?_ _) | (with_reducible refine Below.drew ?_) | (with_reducible refine bdrewN ?_ _) | (with_reducible refine bnext ?_ (by with_reducible assumption)) | exact Nat.le_refl _ | (simp; done) | omega | (simp; omega)))); clear hb3)
              | fail)
            have HF3 := Lib.hid (HF2.out.stays (Stays.of_below HB3.out (fun _ => False)) id (fun _ _ => id) (fun _ _ => id))
            have HN3 := Lib.hid (HN2.out.stays (Stays.of_below HB3.out (fun _ => False)) id (fun _ _ => id))
            have hx3 := (HB3.out.cell (p := ⟨w.heap.size, 0, none⟩) hlX2).trans hx2
            have hl3 : w2.heap.size ≤ w3.heap.size := HB3.out.size
            have hlF3 : F < w3.heap.size := by omega
            have hlN3 : N < w3.heap.size := HN3.out.box.lt
            have hlX3 : w.heap.size < w3.heap.size := by omega
            clear hc0 hc2 hc3 hx2 HC
            have hc2 := HF3.out.box.cell2
            have hc3 := HF3.out.box.cell3
            have hFN : F ≠ N := HF3.out.box.two HN3.out.box fetNeNext
            have hNF : N ≠ F := Ne.symm hFN
            have hXN : w.heap.size ≠ N := by omega
            have hNX : N ≠ w.heap.size := by omega
            have HDC : Hid (∀ wx, Below w3.heap.size w3 wx → Cells wx D (s'.data.map fun b => .int .u8 b.toNat)) := Lib.hid (fun wx hb => (HF3.out.data.next hb).cells)
            obtain ⟨m, j, hm, hj⟩ : ∃ (m : Nat) (j : Int), Hid (m = min s'.end_.toNat s'.data.length) ∧ (j = m ∧ m ≤ s'.data.length ∧ Hid (j = if (s'.data.length : Int) < s'.end_ then (s'.data.length : Int) else s'.end_)) := ⟨min s'.end_.toNat s'.data.length, ((min s'.end_.toNat s'.data.length : Nat) : Int), Lib.hid rfl, rfl, by omega, Lib.hid (by split <;> omega)⟩
            obtain ⟨hj1, hj2, HJ⟩ := hj
            have hcl : (s'.data.take m).length = m := by rw [List.length_take]; omega
            have HCL : Hid (((s'.data.take m).map fun b => Value.int .u8 (b.toNat : Int)).length = m) := Lib.hid (by rw [List.length_map, hcl])
            have HCLN : Hid (∀ wx, Stays w3 wx (fun k => k = N) → Cells wx D ((s'.data.take m).map fun b => Value.int .u8 (b.toNat : Int))) := Lib.hid (fun wx hs => by rw [List.map_take]; exact (HF3.out.data.stays hs (fun k hk e => HN3.out.box.apart HF3.out.data u8NeNext (e ▸ hk))).cells.take m)
            clear HDC
            have hch := fun W => run_cut_h (P := Try.prog) elemU8 D s'.data.length dc m (by omega) j hj1 W
            have HSW3 : Hid (Stays w w3 (fun k => k = F ∨ k = N ∨ blkOf A = some k ∨ blkOf A' = some k)) := Lib.hid (HSW.out.trans (Stays.of_below HB3.out (fun _ => False)) (fun _ _ h => h.elim))
            clear hcl hj1 HB3 HSW HF2 HN2
            by_cases he2 : (s'.data.length : Int) < s'.end_
            all_goals
              (first | rw [HJ.out, if_pos he2] at hch | rw [HJ.out, if_neg he2] at hch)
              clear HJ
              have hn2 := HN3.out.box.cell2
              have hn3 := HN3.out.box.cell3
              have hg2 := HN3.out.box.frozen 2
              have hg3 := HN3.out.box.frozen 3
              go_region_held3 (fun w' => w'.cell? ⟨w.heap.size, 0, none⟩ = some (.pointer (some ⟨F, 0, none⟩)) ∧ w'.cell? ⟨F, 2, none⟩ = some (.int .i64 s'.end_) ∧ w'.cell? ⟨F, 3, none⟩ = some (.slice D s'.data.length dc)) ((go_keep; done))
                (first
                  | (go_at_call 36; refine (clone_u8 m D dc _ _ HCL.out (fun wx hb => HCLN.out wx ((Stays.of_below (Below.drew (bself _)) _).trans (Stays.of_below hb _) (fun _ _ h => h))) (oneCell_u8 _) (by omega)).mono ?_; rintro e w4 ⟨E, ec, rfl, ho4, hb4⟩; have x1 := (hb4.cell (p := ⟨w.heap.size, 0, none⟩) hlX3).trans hx3; have x2 := (hb4.cell (p := ⟨F, 2, none⟩) hlF3).trans hc2; have x3 := (hb4.cell (p := ⟨F, 3, none⟩) hlF3).trans hc3; have y2 := (hb4.cell (p := ⟨N, 2, none⟩) hlN3).trans hn2; have y3 := (hb4.cell (p := ⟨N, 3, none⟩) hlN3).trans hn3; have z2 := (hb4.frozen (p := ⟨N, 2, none⟩) hlN3).trans hg2; have z3 := (hb4.frozen (p := ⟨N, 3, none⟩) hlN3).trans hg3)
                  | (go_at_call 36; refine (clone_u8 m D dc _ _ HCL.out (fun wx hb => HCLN.out wx ((Stays.of_below (Below.drew (bself _)) _).trans ((Stays.set _ _ _ _).trans (Stays.of_below hb _) (fun _ _ h => h)) (fun _ _ h => h))) (oneCell_u8 _) (by omega)).mono ?_; rintro e w4 ⟨E, ec, rfl, ho4, hb4⟩)
                  | fail)
              all_goals
                go_wp2
                go_end0
                have hEN : blkOf E ≠ some N := fun h => by have := (ho4.lt _ h).1; (try simp only [World.size_drew, World.size_setCell] at this); omega
                have HO4 := ho4.base_le (b' := w.heap.size) (by (try simp only [World.size_drew, World.size_setCell]); omega)
                first
                  | exact ⟨rfl, on_end1 HF3.out HN3.out HFR.out (((Stays.of_below (Below.drew (bself _)) _).trans (Stays.of_below hb4 _) (fun _ _ h => h)).trans ((Stays.set _ _ _ _).trans (Stays.set _ _ _ _) (fun _ _ h => h)) (fun _ _ h => h)) HSW3.out HBA.out HMT.out HFL.out HD.out hm.out (((HN3.out.box.drew.next hb4).set2 _).set3 _) ((HO4.setCell (by exact hEN) _).setCell (by exact hEN) _)⟩
                  | exact ⟨rfl, on_end1 HF3.out HN3.out HFR.out (((Stays.of_below (Below.drew (bself _)) _).trans (Stays.of_below hb4 _) (fun _ _ h => h)).trans ((Stays.set _ _ _ _).trans (Stays.set _ _ _ _) (fun _ _ h => h)) (fun _ _ h => h)) HSW3.out HBA.out HMT.out HFL.out HD.out hm.out (((HN3.out.box.drew.next hb4).set3 _).set2 _) ((HO4.setCell (by exact hEN) _).setCell (by exact hEN) _)⟩
                  | exact ⟨rfl, on_end1 HF3.out HN3.out HFR.out (((Stays.of_below (Below.drew (bself _)) _).trans (Stays.set _ _ _ _) (fun _ _ h => h)).trans ((Stays.of_below hb4 _).trans (Stays.set _ _ _ _) (fun _ _ h => h)) (fun _ _ h => h)) HSW3.out HBA.out HMT.out HFL.out HD.out hm.out (((HN3.out.box.drew.set2 _).next hb4).set3 _) (HO4.setCell (by exact hEN) _)⟩
        · have de : decide (0 ≤ s'.end_) = false := decide_eq_false he
          have HD : Hid (ft.done s' = false) := Lib.hid (by rw [ft.anyB_done, de]; simp)
          go_wp2
          go_end0
          exact ⟨rfl, on_end0 HF2.out HN2.out HFR.out (by exact (by repeat (first | (with_reducible exact Below.refl _ _) | (with_reducible assumption) | (with_reducible refine bset ?_ ?_ _) | (with_reducible refine balloc ?_ _) | (with_reducible refine Below.drew ?_) | (with_reducible refine bdrewN ?_ _) | (with_reducible refine bnext ?_ (by with_reducible assumption)) | exact Nat.le_refl _ | (simp; done) | omega | (simp; omega)))) HSW.out HBA.out HMT.out HFL.out HD.out⟩
end Go.Proofs.Ytdldfllllgogoaa
