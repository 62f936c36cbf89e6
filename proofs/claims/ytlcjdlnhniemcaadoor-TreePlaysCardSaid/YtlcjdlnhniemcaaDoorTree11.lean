/- slices.Sorted of a directory's names; sorting names. No condition. -/
import Derived.Test.YtlcjdlnhniemcaaDoorMgG
import Derived.Test.YtlcjdlnhniemcaaDoorShelfG
import Derived.Shelf.SlIter.Nil
import Derived.Shelf.SortM.Plain
import Derived.Shelf.SortM.SortNone
import Derived.Sort.OwnSorted
namespace Go.Proofs.YtlcjdlnhniemcaaDoor
open Go.RowKit Go.Maps Go.Sort Go.Shelf Go.WideShapes Go.ChangeMaps Go.MapKept Go.WideElems
set_option linter.unusedSimpArgs false
set_option linter.unusedVariables false

theorem tr.sv_enc (l : List (List UInt8)) : l.map encStr = l.map pa.sv := rfl
theorem sortsS (m : Nat) : AnyZ.SortsIn Tryd.prog sortedA_ren Fence.wide m :=
  ⟨fun blk off cap ss W hH hblk hsz => callsIn_wide.2 (AnyM.slices_Sort_string sortA blk off cap ss W hH hblk hsz),
   fun p cap W => callsIn_wide.2 (AnyM.slices_Sort_string_none sortA p cap W)⟩
theorem tree_keys (mb : Nat) (w : World) : Calls Tryd.prog 32 #[.map (some mb)] w fun e w' => e = .returned (.func (.func 45) #[] #[.pointer (some ⟨w.heap.size, 0, none⟩)]) ∧ w' = w.alloc (.cells #[.map (some mb)] 43) :=
  (callsIn_wide (n := 5)).1 (AnyZ.keys_in keysA Fence.wide 5 trivial rfl (some mb) w)
theorem tree_sorted {b nn : Nat} {D0 : DataW Value} (w : World) (hown : w.ownsMap Tryd.prog 9 selfElem b nn D0) (hs : Maps.size D0 ≤ 4096) {ks : List (List UInt8)} (hk : (Go.strKeys D0).Perm ks) :
    Calls Tryd.prog 31 #[.func (.func 45) #[] #[.pointer (some ⟨w.heap.size, 0, none⟩)]] (w.alloc (.cells #[.map (some b)] 43)) fun e w' => ∃ A c, e = .returned (.slice A ks.length c) ∧ Own w' w.heap.size 9 1 A ks.length c ((tr.sorted ks).map pa.sv) ∧ Below w.heap.size w w' := by
  have hbl := hown.lt
  have hseq : SeqGives Fence.wide 2 Tryd.prog 45 #[.pointer (some ⟨w.heap.size, 0, none⟩)] encStr (fun ss => ss.Perm (strKeys D0)) (Maps.size D0) (w.alloc (.cells #[.map (some b)] 43)) :=
    AnyZ.keys_gives (ρ := keysA_ren) { keysA with } Fence.wide _ trivial rfl (by omega) w.heap.size b nn D0 _ (by simp) (by simp) (by
      obtain ⟨es, clock, hb, Ft, hs, hD⟩ := hown
      exact ⟨es, clock, (Below.heap_alloc _ _ b hbl).trans hb, Ft, hs, hD⟩)
  have cS := AnyZ.sorted_in sortedA Fence.wide 5 trivial trivial trivial trivial rfl (by omega) (sortsS _) (enters_of Tryd.func44 (by kernel_rfl) rfl) 45 #[.pointer (some ⟨w.heap.size, 0, none⟩)] trivial (enters_of Tryd.func45 (by kernel_rfl) rfl) _ _ (by unfold maxLen; omega) (by omega) _ hseq
  have h := (callsIn_wide (n := 5)).1 cS
  refine Calls.mono h fun e w' => ?_
  rintro ⟨v, ss, rfl, hS, hrow, _, hb⟩
  obtain ⟨A, c, rfl⟩ := own_shape hrow
  have hl : ss.length = ks.length := (hS.trans hk).length_eq
  have hm : (ss.mergeSort fun x y => decide (x ≤ y)) = tr.sorted ks := mergeSort_of_perm (hS.trans hk)
  rw [hm, hl, tr.sv_enc] at hrow
  rw [hl]
  refine ⟨A, c, rfl, Own.base_le (show Own w' _ 9 1 A ks.length c _ from hrow) (by simp), (balloc (bself w) _).trans (hb.mono (by simp))⟩
end Go.Proofs.YtlcjdlnhniemcaaDoor
