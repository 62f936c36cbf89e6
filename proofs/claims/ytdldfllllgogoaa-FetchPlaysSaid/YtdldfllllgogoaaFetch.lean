/- Package fetch: the fetcher and the answer in memory. No condition. -/
import Derived.Test.YtdldfllllgogoaaFetchP
import Derived.Test.YtdldfllllgogoaaStay
import Derived.Test.YtdldfllllgogoaaSl
namespace Go.Proofs.Ytdldfllllgogoaa
open Go.RowKit

theorem elemWant : ElemT Try.prog 27 33 2 16 := ElemT.of Try.underlying27 (z := .agg #[.int .i64 0, .int .i64 0]) (by kernel_rfl) rfl (by decide)
/-- the fetcher F -/
structure FetAt (w : World) (B F : Nat) (s : ft.St) (A : Option Addr) (c : Nat) (D : Option Addr) (dc : Nat) : Prop where
  lo : B ≤ F
  box : Blk4 w F 62 (.slice A s.out.length c) (.int .i64 s.front) (.int .i64 s.end_) (.slice D s.data.length dc)
  out : Own w B 33 2 A s.out.length c (wantCells s.out)
  data : Own w B 5 1 D s.data.length dc (s.data.map fun b => .int .u8 b.toNat)
/-- the answer N as it grows -/
structure NexAt (w : World) (B N : Nat) (l : List Want) (A : Option Addr) (c : Nat) : Prop where
  lo : B ≤ N
  box : Blk4 w N 30 (.int .i64 0) (.slice A l.length c) (.bool false) (.slice none 0 0)
  out : Own w B 33 2 A l.length c (wantCells l)

/-- both, behind an ask -/
def AskRes (w : World) (B BN F N : Nat) (s : ft.St) (l : List Want) (A A' : Option Addr) (D : Option Addr) (dc : Nat) (x : Want) (w' : World) : Prop :=
  ∃ A1 c1 A2 c2, FetAt w' B F { s with out := s.out ++ [x] } A1 c1 D dc ∧ NexAt w' BN N (l ++ [x]) A2 c2 ∧ Far A1 A2 ∧ Stays w w' (fun k => k = F ∨ k = N ∨ blkOf A = some k ∨ blkOf A' = some k) ∧
    (blkOf A1 = blkOf A ∨ ∃ k, w.heap.size ≤ k ∧ blkOf A1 = some k) ∧ (blkOf A2 = blkOf A' ∨ ∃ k, w.heap.size ≤ k ∧ blkOf A2 = some k)
theorem wantNeFet : (33 : TypeId) ≠ 62 := by decide
theorem wantNeNext : (33 : TypeId) ≠ 30 := by decide
theorem u8NeFet : (5 : TypeId) ≠ 62 := by decide
theorem u8NeNext : (5 : TypeId) ≠ 30 := by decide
theorem fetNeNext : (62 : TypeId) ≠ 30 := by decide
theorem wantNeU8 : (33 : TypeId) ≠ 5 := by decide
theorem Stays.of_below {w w' : World} (h : Below w.heap.size w w') (No : Nat → Prop) : Stays w w' No := ⟨h.os, h.tape, h.output, h.size, fun k hk _ => h.block k hk⟩
theorem FetAt.stays {w w' : World} {B F : Nat} {s : ft.St} {A D : Option Addr} {c dc : Nat} {No : Nat → Prop} (h : FetAt w B F s A c D dc) (hs : Stays w w' No) (h1 : ¬ No F) (h2 : ∀ k, blkOf A = some k → ¬ No k) (h3 : ∀ k, blkOf D = some k → ¬ No k) : FetAt w' B F s A c D dc :=
  ⟨h.lo, h.box.stays hs h1, h.out.stays hs h2, h.data.stays hs h3⟩
theorem NexAt.stays {w w' : World} {B N : Nat} {l : List Want} {A : Option Addr} {c : Nat} {No : Nat → Prop} (h : NexAt w B N l A c) (hs : Stays w w' No) (h1 : ¬ No N) (h2 : ∀ k, blkOf A = some k → ¬ No k) : NexAt w' B N l A c :=
  ⟨h.lo, h.box.stays hs h1, h.out.stays hs h2⟩
theorem FetAt.push {w wa w2 : World} {B F : Nat} {s : ft.St} {A A2 D : Option Addr} {c c2 dc : Nat} (h : FetAt w B F s A c D dc) (x : Want) (hb : Below w.heap.size w wa) (hg : Grew wa w2 A A2) (ho : Own w2 B 33 2 A2 (s.out.length + 1) c2 (wantCells s.out ++ [.int .i64 x.at_, .int .i64 x.count])) :
    FetAt (w2.setCell ⟨F, 0, none⟩ (.slice A2 (s.out.length + 1) c2)) B F { s with out := s.out ++ [x] } A2 c2 D dc ∧ Stays w (w2.setCell ⟨F, 0, none⟩ (.slice A2 (s.out.length + 1) c2)) (fun k => k = F ∨ blkOf A = some k) ∧ (blkOf A2 = blkOf A ∨ ∃ k, w.heap.size ≤ k ∧ blkOf A2 = some k) := by
  have hAF : blkOf A ≠ some F := h.box.apart h.out wantNeFet
  have hs1 : Stays w w2 (fun k => blkOf A = some k) := (Stays.of_below hb (fun k => blkOf A = some k)).trans (Stays.grew hg) (fun k _ hk => hk)
  have hFB := h.box.stays hs1 hAF
  have hFA2 : blkOf A2 ≠ some F := hFB.apart ho wantNeFet
  have hDA : ∀ k, blkOf D = some k → ¬ blkOf A = some k := fun k hk hA => by
    rcases h.out.two h.data wantNeU8 with e | e
    · rw [e] at hA; cases hA
    · exact e (hA.trans hk.symm)
  have hDF : blkOf D ≠ some F := h.box.apart h.data u8NeFet
  have hl : (s.out ++ [x]).length = s.out.length + 1 := by simp
  refine ⟨⟨h.lo, ?_, ?_, (h.data.stays hs1 hDA).setCell (by exact hDF) _⟩, (hs1.mono (No2 := fun k => k = F ∨ blkOf A = some k) (fun k _ hk => .inr hk)).trans (Stays.set w2 F 0 _) (fun k _ hk => .inl hk), ?_⟩
  · show Blk4 _ F _ (.slice A2 (s.out ++ [x]).length c2) _ _ _
    rw [hl]
    exact hFB.set0 _
  · show Own _ B _ 2 A2 (s.out ++ [x]).length c2 (wantCells (s.out ++ [x]))
    rw [hl, wantCells_app]
    exact ho.setCell (by exact hFA2) _
  · rcases hg.blk with e | ⟨k, h1, h2⟩
    · exact .inl e
    · exact .inr ⟨k, Nat.le_trans hb.size h1, h2⟩
theorem NexAt.push {w wa w2 : World} {B N : Nat} {l : List Want} {A A2 : Option Addr} {c c2 : Nat} (h : NexAt w B N l A c) (x : Want) (hb : Below w.heap.size w wa) (hg : Grew wa w2 A A2) (ho : Own w2 B 33 2 A2 (l.length + 1) c2 (wantCells l ++ [.int .i64 x.at_, .int .i64 x.count])) :
    NexAt (w2.setCell ⟨N, 1, none⟩ (.slice A2 (l.length + 1) c2)) B N (l ++ [x]) A2 c2 ∧ Stays w (w2.setCell ⟨N, 1, none⟩ (.slice A2 (l.length + 1) c2)) (fun k => k = N ∨ blkOf A = some k) ∧ (blkOf A2 = blkOf A ∨ ∃ k, w.heap.size ≤ k ∧ blkOf A2 = some k) := by
  have hAN : blkOf A ≠ some N := h.box.apart h.out wantNeNext
  have hs1 : Stays w w2 (fun k => blkOf A = some k) := (Stays.of_below hb (fun k => blkOf A = some k)).trans (Stays.grew hg) (fun k _ hk => hk)
  have hNB := h.box.stays hs1 hAN
  have hNA2 : blkOf A2 ≠ some N := hNB.apart ho wantNeNext
  have hl : (l ++ [x]).length = l.length + 1 := by simp
  refine ⟨⟨h.lo, ?_, ?_⟩, (hs1.mono (No2 := fun k => k = N ∨ blkOf A = some k) (fun k _ hk => .inr hk)).trans (Stays.set w2 N 1 _) (fun k _ hk => .inl hk), ?_⟩
  · rw [hl]; exact hNB.set1 _
  · rw [hl, wantCells_app]
    exact ho.setCell (by exact hNA2) _
  · rcases hg.blk with e | ⟨k, h1, h2⟩
    · exact .inl e
    · exact .inr ⟨k, Nat.le_trans hb.size h1, h2⟩
end Go.Proofs.Ytdldfllllgogoaa
