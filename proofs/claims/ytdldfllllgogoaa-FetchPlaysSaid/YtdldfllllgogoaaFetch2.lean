/- Package fetch: ask. No condition. -/
import Derived.Test.YtdldfllllgogoaaFetch
import Derived.Deep.DeepCutAuto
import Derived.Deep.RegionLaw
namespace Go.Proofs.Ytdldfllllgogoaa
open Go.RowKit

set_option maxRecDepth 100000 in
set_option maxHeartbeats 800000 in
theorem fetch_ask (s : ft.St) (l : List Want) (x : Want) (A A' D : Option Addr) (c c' dc B BN F N : Nat) (w : World) (h : FetAt w B F s A c D dc) (hn : NexAt w BN N l A' c') (hf : Far A A') (hl : s.out.length ≤ 1000) (hl2 : l.length ≤ 1000) :
    Calls Try.prog 33 #[.pointer (some ⟨F, 0, none⟩), .pointer (some ⟨N, 0, none⟩), .agg #[.int .i64 x.at_, .int .i64 x.count]] w fun e w' => e = .returned (.tuple #[]) ∧ AskRes w B BN F N s l A A' D dc x w' := by
  obtain ⟨w1, hw1⟩ : ∃ w1, w1 = w.alloc (.cells #[.int .i64 x.at_, .int .i64 x.count] 33) := ⟨_, rfl⟩
  have hb1 : Below w.heap.size w w1 := by rw [hw1]; exact balloc (bself w) _
  have hs1 : w1.heap.size = w.heap.size + 1 := by rw [hw1]; simp
  have HS1 := Lib.hid hs1
  have hx0 : w1.cell? ⟨w.heap.size, 0, none⟩ = some (.int .i64 x.at_) := by rw [hw1]; simp [go_sem]
  have hx1 : w1.cell? ⟨w.heap.size, 1, none⟩ = some (.int .i64 x.count) := by rw [hw1]; simp [go_sem]
  have HF := Lib.hid h
  have HN := Lib.hid hn
  have HFB := Lib.hid (h.box.next hb1)
  have HFO := Lib.hid (h.out.next hb1)
  have HFW : Hid (FetAt w1 B F s A c D dc) := Lib.hid (h.stays (Stays.of_below hb1 (fun _ => False)) id (fun _ _ => id) (fun _ _ => id))
  have HNW : Hid (NexAt w1 BN N l A' c') := Lib.hid (hn.stays (Stays.of_below hb1 (fun _ => False)) id (fun _ _ => id))
  have hc0 := HFB.out.cell0
  have hlF : F < w.heap.size := h.box.lt
  have hlN : N < w.heap.size := hn.box.lt
  have hzB : B ≤ w.heap.size := Nat.le_of_lt (Nat.lt_of_le_of_lt h.lo hlF)
  have HAF : Hid (∀ k, blkOf A = some k → k ≠ F) := Lib.hid (fun k hk e => h.box.apart h.out wantNeFet (e ▸ hk))
  have HAW : Hid (∀ k, blkOf A = some k → k ≠ w.heap.size) := Lib.hid (fun k hk e => by have := (h.out.lt k hk).2; omega)
  have HBX : Hid (∀ m o, Below w1.heap.size w1 ((w1.drewN m).alloc o)) := Lib.hid fun m o => balloc (bdrewN (bself w1) m) o
  have HOX : Hid (∀ m o, Own ((w1.drewN m).alloc o) B 33 2 A s.out.length c (wantCells s.out)) := Lib.hid fun m o => HFO.out.next (HBX.out m o)
  have HC0 : Hid (∀ m o, ((w1.drewN m).alloc o).cell? ⟨F, 0, none⟩ = some (.slice A s.out.length c)) := Lib.hid fun m o => ((HBX.out m o).cell (p := ⟨F, 0, none⟩) (by show F < _; omega)).trans hc0
  have HF0 : Hid (∀ m o, ((w1.drewN m).alloc o).frozen? ⟨F, 0, none⟩ = false) := Lib.hid fun m o => ((HBX.out m o).frozen (p := ⟨F, 0, none⟩) (by show F < _; omega)).trans (HFB.out.frozen 0)
  have HSX : Hid (∀ m o, w1.heap.size < ((w1.drewN m).alloc o).heap.size) := Lib.hid fun m o => by simp
  have HSB : Hid (∀ m o, B ≤ ((w1.drewN m).alloc o).heap.size) := Lib.hid fun m o => by simp; omega
  have HSF : Hid (∀ m o, F < ((w1.drewN m).alloc o).heap.size) := Lib.hid fun m o => by simp; omega
  have HZX : Hid (([.int .i64 x.at_, .int .i64 x.count] : List Value).length = 2) := Lib.hid rfl
  have HV : Hid (∀ u ∈ ([.int .i64 x.at_, .int .i64 x.count] : List Value), u.oneCell' = true) := Lib.hid (by simp [Value.oneCell'])
  have hF1 : F < w1.heap.size := by omega
  have hX1 : w.heap.size < w1.heap.size := by omega
  clear h hn hs1
  go_enter Try.func33, Try.ntmps33
  go_upto_region 1 with fail
  rw [← hw1]
  clear hw1
  go_region_law
    (first
      | ((refine step_app _ (by rfl) _ _ _ (by rfl) elemWant B A s.out.length c _ (by rfl) (HOX.out _ _) (some ⟨_, 0, none⟩) 1 1 [.int .i64 x.at_, .int .i64 x.count] (by rfl) (by rfl) (Cells.new _ _ _) HV.out (by omega) (by unfold maxLen; omega) (HSB.out _ _) ?_; intro A2 c2 w2 hO2 hg2; have x0 := (hg2.cell (b := F) 0 (HSF.out _ _) HAF.out).trans (HC0.out _ _); have x1 := (hg2.frozen (b := F) 0 (HSF.out _ _) HAF.out).trans (HF0.out _ _)))
      | fail)
  all_goals
    obtain ⟨hF2, hst, hbk⟩ := (HFW.out).push x (HBX.out _ _) hg2 hO2
    have hx0' := (hg2.cell (b := w.heap.size) 0 (Nat.lt_trans hX1 (HSX.out _ _)) HAW.out).trans (((HBX.out _ _).cell (p := ⟨w.heap.size, 0, none⟩) hX1).trans hx0)
    have hx1' := (hg2.cell (b := w.heap.size) 1 (Nat.lt_trans hX1 (HSX.out _ _)) HAW.out).trans (((HBX.out _ _).cell (p := ⟨w.heap.size, 1, none⟩) hX1).trans hx1)
    have hs2 : w1.heap.size < w2.heap.size := Nat.lt_of_lt_of_le (HSX.out _ _) hg2.grown.size
    have hFw : w.heap.size ≠ F := by omega
    have hx0 := (World.cell?_setCell_other w2 ⟨F, 0, none⟩ ⟨w.heap.size, 0, none⟩ (.slice A2 (s.out.length + 1) c2) (fun e => by simp only [Addr.mk.injEq] at e; omega)).trans hx0'
    have hx1 := (World.cell?_setCell_other w2 ⟨F, 0, none⟩ ⟨w.heap.size, 1, none⟩ (.slice A2 (s.out.length + 1) c2) (fun e => by simp only [Addr.mk.injEq] at e; omega)).trans hx1'
    clear HC0 HF0 HOX HBX HSX HSB HSF hO2 hg2 x0 x1 HFB HFO hc0 hx0' hx1'
    obtain ⟨w3, hw3⟩ : ∃ w3, w3 = w2.setCell ⟨F, 0, none⟩ (.slice A2 (s.out.length + 1) c2) := ⟨_, rfl⟩
    rw [← hw3] at hF2 hst hx0 hx1
    go_upto_region 2 with fail
    try rw [← hw3]
    clear hw3
    have hFN : F ≠ N := HFW.out.box.two HNW.out.box fetNeNext
    have hAN : blkOf A ≠ some N := HNW.out.box.apart HFW.out.out wantNeNext
    have hA'F : blkOf A' ≠ some F := HFW.out.box.apart HNW.out.out wantNeFet
    have HN3 := Lib.hid (HNW.out.stays hst (fun h => h.elim (fun e => hFN e.symm) hAN) (fun k hk h => h.elim (fun e => hA'F (e ▸ hk)) (fun e => hf k e hk)))
    have HF2 := Lib.hid hF2
    have HST := Lib.hid hst
    have HBK := Lib.hid hbk
    have h13 : w1.heap.size ≤ w3.heap.size := hst.size
    have HFAR : Hid (Far A2 A') := Lib.hid (fun k hk hk2 => by
      rcases HBK.out with e | ⟨q, e1, e2⟩
      · exact hf k (e ▸ hk) hk2
      · rw [e2] at hk
        cases hk
        have := (HN.out.out.lt _ hk2).2
        omega)
    have hcn : w3.cell? ⟨N, 1, none⟩ = some (.slice A' l.length c') := HN3.out.box.cell1
    have HAN' : Hid (∀ k, blkOf A' = some k → k ≠ N) := Lib.hid (fun k hk e => HN3.out.box.apart HN3.out.out wantNeNext (e ▸ hk))
    have HBY : Hid (∀ m o, Below w3.heap.size w3 ((w3.drewN m).alloc o)) := Lib.hid fun m o => balloc (bdrewN (bself w3) m) o
    have hN3 : N < w3.heap.size := HN3.out.box.lt
    have hX3 : w.heap.size < w3.heap.size := Nat.lt_of_lt_of_le hX1 h13
    have HOY : Hid (∀ m o, Own ((w3.drewN m).alloc o) BN 33 2 A' l.length c' (wantCells l)) := Lib.hid fun m o => HN3.out.out.next (HBY.out m o)
    have HCN : Hid (∀ m o, ((w3.drewN m).alloc o).cell? ⟨N, 1, none⟩ = some (.slice A' l.length c')) := Lib.hid fun m o => ((HBY.out m o).cell (p := ⟨N, 1, none⟩) hN3).trans hcn
    have HFN : Hid (∀ m o, ((w3.drewN m).alloc o).frozen? ⟨N, 1, none⟩ = false) := Lib.hid fun m o => ((HBY.out m o).frozen (p := ⟨N, 1, none⟩) hN3).trans (HN3.out.box.frozen 1)
    have HSN : Hid (∀ m o, N < ((w3.drewN m).alloc o).heap.size) := Lib.hid fun m o => Nat.lt_of_lt_of_le hN3 (HBY.out m o).size
    have HSBN : Hid (∀ m o, BN ≤ ((w3.drewN m).alloc o).heap.size) := Lib.hid fun m o => Nat.le_of_lt (Nat.lt_of_le_of_lt HN3.out.lo (HSN.out m o))
    clear hF2 hst hbk hFN hAN hA'F
    go_region_law
      (first
        | ((refine step_app _ (by rfl) _ _ _ (by rfl) elemWant BN A' l.length c' _ (by rfl) (HOY.out _ _) (some ⟨_, 0, none⟩) 1 1 [.int .i64 x.at_, .int .i64 x.count] (by rfl) (by rfl) (Cells.new _ _ _) HV.out (by omega) (by unfold maxLen; omega) (HSBN.out _ _) ?_; intro A4 c4 w4 hO4 hg4; have x0 := (hg4.cell (b := N) 1 (HSN.out _ _) HAN'.out).trans (HCN.out _ _); have x1 := (hg4.frozen (b := N) 1 (HSN.out _ _) HAN'.out).trans (HFN.out _ _)))
        | fail)
    all_goals
      obtain ⟨hN5, hst5, hbk5⟩ := HN3.out.push x (HBY.out _ _) hg4 hO4
      go_end0
      refine ⟨rfl, A2, c2, A4, c4, HF2.out.stays hst5 ?_ ?_ ?_, hN5, ?_, ?_, ?_, ?_⟩
      · exact fun h => h.elim (fun e => HF2.out.box.two HN3.out.box fetNeNext e) (fun e => HF2.out.box.apart HN3.out.out wantNeFet e)
      · exact fun k hk h => h.elim (fun e => HN3.out.box.apart HF2.out.out wantNeNext (e ▸ hk)) (fun e => HFAR.out k hk e)
      · exact fun k hk h => h.elim (fun e => HN3.out.box.apart HF2.out.data u8NeNext (e ▸ hk)) (fun e => by
          rcases HN3.out.out.two HF2.out.data wantNeU8 with h2 | h2
          · rw [h2] at e; cases e
          · exact h2 (e.trans hk.symm))
      · intro k hk hk2
        rcases hbk5 with e | ⟨q, e1, e2⟩
        · exact HFAR.out k hk (e ▸ hk2)
        · rw [e2] at hk2
          cases hk2
          have := (HF2.out.out.lt _ hk).2
          omega
      · exact (Stays.of_below hb1 (fun k => k = F ∨ k = N ∨ blkOf A = some k ∨ blkOf A' = some k)).trans ((HST.out.mono (No2 := fun k => k = F ∨ k = N ∨ blkOf A = some k ∨ blkOf A' = some k) (fun k _ h => h.elim .inl (fun e => .inr (.inr (.inl e))))).trans hst5 (fun k _ h => h.elim (fun e => .inr (.inl e)) (fun e => .inr (.inr (.inr e))))) (fun k _ h => h)
      · rcases HBK.out with e | ⟨q, e1, e2⟩
        · exact .inl e
        · exact .inr ⟨q, by omega, e2⟩
      · rcases hbk5 with e | ⟨q, e1, e2⟩
        · exact .inl e
        · exact .inr ⟨q, by omega, e2⟩
end Go.Proofs.Ytdldfllllgogoaa
