/- Package tree: a file's bytes: long, in. No condition. -/
import Derived.Test.YtlcjdlnhniemcaaDoorMgF
import Derived.Test.YtlcjdlnhniemcaaDoorMgD
namespace Go.Proofs.YtlcjdlnhniemcaaDoor
open Go.RowKit Go.Maps Go.MapKept
set_option linter.unusedSimpArgs false
set_option linter.unusedVariables false

theorem Cells.takeT {w : World} {A : Option Addr} {xs : List Value} (h : Cells w A xs) (n : Nat) : Cells w A (xs.take n) := by
  rcases h with h | ⟨b, o, e, h⟩
  · exact .inl (by rw [h]; simp)
  · refine .inr ⟨b, o, e, fun j u hj => h j u ?_⟩
    rw [List.getElem?_take] at hj
    split at hj
    · exact hj
    · cases hj
theorem tr.zeros_len (d : List UInt8) (n : Nat) : (tr.zeros d n).length = max d.length n := by
  unfold tr.zeros
  rw [List.length_append, List.length_replicate]
  omega
theorem tr.cut_len (d : List UInt8) (n : Nat) : (tr.cutD d n).length = n := by
  unfold tr.cutD
  rw [List.length_take, tr.zeros_len]
  omega
/-- a file in memory -/
structure FAt (w : World) (B F : Nat) (D : List UInt8) (A : Option Addr) (c : Nat) : Prop where
  blk : BlkA w F 54 #[.slice A D.length c]
  own : Own w B 5 1 A D.length c (D.map u8v)
  lo : B ≤ F
section
variable {w w' : World} {B F : Nat} {D : List UInt8} {A : Option Addr} {c : Nat}
theorem FAt.next (h : FAt w B F D A c) (hb : Below w.heap.size w w') : FAt w' B F D A c := ⟨h.blk.next hb, h.own.next hb, h.lo⟩
theorem FAt.cell (h : FAt w B F D A c) : w.cell? ⟨F, 0, none⟩ = some (.slice A D.length c) := h.blk.get 0
theorem u8NeFile : 5 ≠ 54 := by decide
theorem FAt.apart (h : FAt w B F D A c) : blkOf A ≠ some F := h.blk.apart h.own u8NeFile
end
/-- behind a turn of a file -/
def FOut (w w' : World) (B F : Nat) (A : Option Addr) (D' : List UInt8) : Prop :=
  ∃ A' c', FAt w' B F D' A' c' ∧ Stays w w' (fun k => k = F ∨ blkOf A = some k) ∧ ∀ k, blkOf A' = some k → blkOf A = some k ∨ w.heap.size ≤ k
theorem tr.pad_u8 (d : List UInt8) (n : Nat) : (d.take n).map u8v ++ (List.replicate n (Value.int .u8 0)).drop ((d.take n).map u8v).length = (tr.cutD d n).map u8v := by
  unfold tr.cutD tr.zeros
  rw [List.length_map, List.length_take, List.drop_replicate, List.take_append, List.map_append, List.take_replicate, List.map_replicate]
  congr 2
  omega

set_option maxRecDepth 100000 in
set_option maxHeartbeats 1000000 in
theorem file_long {w : World} {B F : Nat} {D : List UInt8} {A : Option Addr} {c : Nat} (h : FAt w B F D A c) (n : Nat) (hn : n ≤ 2048) (m : Int) (hm : m = (n : Int)) :
    Calls Tryd.prog 47 #[.pointer (some ⟨F, 0, none⟩), .int .i64 m] w fun e w' => e = .returned (.tuple #[]) ∧ FOut w w' B F A (tr.cutD D n) := by
  subst hm
  have H := Lib.hid h
  have hmk := make_row (P := Tryd.prog) (i := Tryd.t5) (z := .int .u8 0) Tryd.underlying28 (by kernel_rfl) (by kernel_rfl) rfl rfl n (n : Int) rfl (by show 1 * _ ≤ _; omega) (by omega)
  have hFl := h.blk.lt
  have hc0 := h.cell
  clear h
  go_enter Tryd.func47, Tryd.ntmps47
  go_upto_region 1 with (fail)
  generalize hw3 : World.alloc w _ = w3
  have hw3' : w3 = w.alloc (.cells (List.replicate n (Value.int .u8 0)).toArray 5) := by rw [← hw3]; simp
  clear hw3 hmk
  have hb3 : Below w.heap.size w w3 := by rw [hw3']; exact balloc (bself w) _
  have hz3 : w3.heap.size = w.heap.size + 1 := by rw [hw3']; simp
  have HO3 : Hid (Own w3 w.heap.size 5 1 (some ⟨w.heap.size, 0, none⟩) n n (List.replicate n (Value.int .u8 0))) := Lib.hid (by rw [hw3']; exact Own.lit w _ _ 1 n _ (Nat.le_refl _) (by simp) (by unfold maxLen; omega))
  have c4 := (hb3.cell (p := ⟨F, 0, none⟩) hFl).trans hc0
  have HCK : Hid (Cells w3 A ((D.take n).map u8v)) := Lib.hid (by
    have h2 := (H.out.own.next hb3).cells
    rw [List.map_take]
    exact Cells.takeT h2 _)
  have HLN : Hid (((D.take n).map u8v).length = min D.length n) := Lib.hid (by rw [List.length_map, List.length_take, Nat.min_comm])
  have HB3 := Lib.hid hb3
  have HZ3 := Lib.hid hz3
  clear hw3' hb3 hz3
  obtain ⟨w4, hcp, ho4, hg4⟩ := run_copyF (P := Tryd.prog) w3 28 28 3 elemU8 w.heap.size w.heap.size n n _ HO3.out A D.length c ((D.take n).map u8v) HLN.out HCK.out (oneCell_u8 _)
  rw [tr.pad_u8] at ho4
  have HO4 := Lib.hid ho4
  have HG4 := Lib.hid hg4
  clear ho4 hg4
  go_upto_region 2 with (fail)
  clear hcp
  have hb4 : Below w.heap.size w w4 := HB3.out.trans (HG4.out.below (by rw [HZ3.out]; omega) (fun k hk => by cases hk; exact Nat.le_refl _))
  have HF4 := Lib.hid (H.out.next hb4)
  have f4 := HF4.out.blk.frozen 0
  have l4 := HF4.out.blk.lt
  have c4 := HF4.out.cell
  have hws : w.heap.size < w4.heap.size := by have h1 := HG4.out.grown.size; have h2 := HZ3.out; omega
  have HO5 : Hid (FOut w (w4.setCell ⟨F, 0, none⟩ (.slice (some ⟨w.heap.size, 0, none⟩) n n)) B F A (tr.cutD D n)) := Lib.hid (by
    have hB : B ≤ w.heap.size := Nat.le_trans H.out.lo (Nat.le_of_lt H.out.blk.lt)
    have hne : blkOf (some ⟨w.heap.size, 0, none⟩) ≠ some F := fun e => by
      have h1 := H.out.blk.lt
      cases e
      exact Nat.lt_irrefl _ h1
    refine ⟨some ⟨w.heap.size, 0, none⟩, n, ⟨?_, ?_, H.out.lo⟩, (Stays.of_below hb4 _).comp ((Stays.set w4 F 0 _).mono fun _ _ h => .inl h), fun k hk => .inr (by cases hk; exact Nat.le_refl _)⟩
    · rw [tr.cut_len]; exact HF4.out.blk.set 0 _
    · rw [tr.cut_len]; exact (HO4.out.base_le hB).setCell hne _)
  go_wp2
  go_end0
  exact ⟨rfl, HO5.out⟩
end Go.Proofs.YtlcjdlnhniemcaaDoor
