/- Package huff: Push, Pop; the heap of package container/heap over it. No condition. -/
import Derived.Test.YtkbmpppendelcaaHeapW
import Derived.Test.YtkbmpppendelcaaPrB
namespace Go.Proofs.Ytkbmpppendelcaa
open Go.RowKit
set_option linter.unusedSimpArgs false

theorem elemTree : ElemT Try.prog 51 52 1 8 := ElemT.of Try.underlying51 (z := .pointer none) (by kernel_rfl) rfl (by decide)
theorem Own.front1 {w : World} {base e n c : Nat} {A : Option Addr} {xs : List Value} (h : Own w base e 1 A n c xs) {k : Nat} (hk : k ≤ n) : Own w base e 1 A k c (xs.take k) := by
  have hl := h.len
  refine ⟨by rw [List.length_take]; omega, ?_⟩
  rcases h.2 with ⟨h1, h2⟩ | ⟨g, cap, cur, h1, h2, h3, h4, h5, h6, h7⟩
  · simp only [Value.slice.injEq] at h1
    exact .inl ⟨by rw [h1.1, h1.2.2, show k = 0 by omega], by omega⟩
  · simp only [Value.slice.injEq] at h1
    exact .inr ⟨g, cap, cur, by rw [h1.1, h1.2.2], h2, h3, by omega, h5, h6, by rw [← h7, List.take_take]; congr 1; omega⟩
/-- a forest in memory -/
structure FAt (w : World) (B Fb : Nat) (A : Option Addr) (c : Nat) (fs : List (Nat × hl.T)) : Prop where
  lo : B ≤ Fb
  box : BlkA w Fb 51 #[.slice A fs.length c]
  rt : RowT w B A c fs
theorem treeNeBox : 55 ≠ 51 := by decide
theorem rowNeBox : 52 ≠ 51 := by decide
theorem FAt.next {w w' : World} {B Fb : Nat} {A : Option Addr} {c : Nat} {fs : List (Nat × hl.T)} (h : FAt w B Fb A c fs) (hb : Below w.heap.size w w') : FAt w' B Fb A c fs := ⟨h.lo, h.box.next hb, h.rt.next hb⟩
theorem FAt.far {w : World} {B Fb : Nat} {A : Option Addr} {c : Nat} {fs : List (Nat × hl.T)} (h : FAt w B Fb A c fs) : blkOf A ≠ some Fb := h.box.apart h.rt.row rowNeBox
def ho.ptr (Fb : Nat) : Value := .pointer (some ⟨Fb, 0, none⟩)
def ho.any (p : Nat) : Value := .iface 52 (.pointer (some ⟨p, 0, none⟩))
theorem assert_tree (p : Nat) (W : World) : (Instr.typeAssert (.iface 52 (.pointer (some ⟨p, 0, none⟩))) 20 52 false).run Try.prog W = .ok (.pointer (some ⟨p, 0, none⟩)) W := by kernel_rfl
set_option maxRecDepth 100000 in
set_option maxHeartbeats 1000000 in
theorem forest_Push (B Fb : Nat) (A : Option Addr) (c : Nat) (fs : List (Nat × hl.T)) (p : Nat) (t : hl.T) (w : World) (h : FAt w B Fb A c fs) (ht : TAt w p t) (hn : fs.length ≤ 1000) :
    Calls Try.prog 84 #[.pointer (some ⟨Fb, 0, none⟩), .iface 52 (.pointer (some ⟨p, 0, none⟩))] w fun e w' => e = .returned (.tuple #[]) ∧ ∃ A' c', FAt w' B Fb A' c' (fs ++ [(p, t)]) ∧ Stays w w' (fun k => k = Fb ∨ blkOf A = some k) ∧ ∀ k, blkOf A' = some k → blkOf A = some k ∨ w.heap.size ≤ k := by
  have H := Lib.hid h
  have HT := Lib.hid ht
  have f0 := h.box.get 0
  have lF := h.box.lt
  have hB := h.lo
  simp only [List.getElem?_toArray, List.getElem?_cons_zero] at f0
  have HSS : Hid (∀ wx, Below w.heap.size w wx → wx.cell? ⟨Fb, 0, none⟩ = some (.slice A fs.length c)) := Lib.hid (fun wx hb => (H.out.box.next hb).get 0)
  have hta := assert_tree p
  clear h ht
  go_enter Try.func84, Try.ntmps84
  go_upto_region 0 with (fail)
  --<push
  refine wp_region_tail [7, 9] (fun wx => wx.cell? ⟨Fb, 0, none⟩ = some (.slice A fs.length c)) (by kernel_rfl) (f0) ?_
  intro hHeld
  refine wpAnyT_pure (i := 0) (v := ?_) rfl (by kernel_rfl) (by kernel_rfl) (by kernel_rfl) (fun _ _ _ h => h) (.inl ⟨by kernel_rfl, ?_⟩) (fun _ => hHeld) ?_ (by decide)
  rotate_left
  · intro w9; go_simp; try with_reducible rfl
  try simp only [Act.put, List.getElem_toArray, List.getElem_cons_succ, List.getElem_cons_zero, List.setIfInBounds_toArray, List.set_cons_zero, List.set_cons_succ]
  refine wpAnyT_pure (i := 1) (v := ?_) rfl (by kernel_rfl) (by kernel_rfl) (by kernel_rfl) (fun _ _ _ h => h) (.inl ⟨by kernel_rfl, ?_⟩) (fun _ => hHeld) ?_ (by decide)
  rotate_left
  · intro w9; go_simp; try with_reducible rfl
  try simp only [Act.put, List.getElem_toArray, List.getElem_cons_succ, List.getElem_cons_zero, List.setIfInBounds_toArray, List.set_cons_zero, List.set_cons_succ]
  refine wpAnyT_pure (i := 2) (v := ?_) rfl (by kernel_rfl) (by kernel_rfl) (by kernel_rfl) (fun _ _ _ h => h) (.inl ⟨by kernel_rfl, ?_⟩) (fun _ => hHeld) ?_ (by decide)
  rotate_left
  · intro w9; go_simp; try with_reducible rfl
  try simp only [Act.put, List.getElem_toArray, List.getElem_cons_succ, List.getElem_cons_zero, List.setIfInBounds_toArray, List.set_cons_zero, List.set_cons_succ]
  refine wpAnyT_pure (i := 4) (v := ?_) rfl (by kernel_rfl) (by kernel_rfl) (by kernel_rfl) (fun _ _ _ h => h) (.inl ⟨by kernel_rfl, ?_⟩) (fun _ => hHeld) ?_ (by decide)
  rotate_left
  · intro w9; go_simp; try with_reducible rfl
  try simp only [Act.put, List.getElem_toArray, List.getElem_cons_succ, List.getElem_cons_zero, List.setIfInBounds_toArray, List.set_cons_zero, List.set_cons_succ]
  refine wpAnyT_pure (i := 5) (v := ?_) rfl (by kernel_rfl) (by kernel_rfl) (by kernel_rfl) (fun _ _ _ h => h) (.inl ⟨by kernel_rfl, ?_⟩) (fun _ => hHeld) ?_ (by decide)
  rotate_left
  · intro w9; go_simp; try with_reducible rfl
  try simp only [Act.put, List.getElem_toArray, List.getElem_cons_succ, List.getElem_cons_zero, List.setIfInBounds_toArray, List.set_cons_zero, List.set_cons_succ]
  refine wpAnyT_take (i := 3) [7, 8, 9] (v := ?_) rfl (by kernel_rfl) (by kernel_rfl) (by kernel_rfl) (by kernel_rfl) (fun _ _ _ h => h) (.inl ⟨by kernel_rfl, ?_⟩) hHeld ?_
  rotate_left
  · intro w9 hS9; (try dsimp only at hS9); go_simp; try with_reducible rfl
  try simp only [Act.put, List.getElem_toArray, List.getElem_cons_succ, List.getElem_cons_zero, List.setIfInBounds_toArray, List.set_cons_zero, List.set_cons_succ]
  refine wpAnyT_next (i := 6) (by kernel_rfl) rfl ?_
  intro K hK
  go_simp
  refine hK.out _ _ (fun _ => (HSS.out _ (by exact (by repeat (first | (with_reducible exact Below.refl _ _) | (with_reducible assumption) | (with_reducible refine bset ?_ ?_ _) | (with_reducible refine balloc ?_ _) | (with_reducible refine Below.drew ?_) | (with_reducible refine bdrewN ?_ _) | (with_reducible refine bnext ?_ (by with_reducible assumption)) | exact Nat.le_refl _ | (simp; done) | omega | (simp; omega)))))) ?_
  clear hK K
  try simp only [Act.put, List.getElem_toArray, List.getElem_cons_succ, List.getElem_cons_zero, List.setIfInBounds_toArray, List.set_cons_zero, List.set_cons_succ]
  refine wpAnyT_next (i := 7) (by kernel_rfl) rfl ?_
  intro K hK
  refine step_app _ (by rfl) _ _ _ (by rfl) elemTree B A fs.length c _ (by rfl) (H.out.rt.row.next (by exact (by repeat (first | (with_reducible exact Below.refl _ _) | (with_reducible assumption) | (with_reducible refine bset ?_ ?_ _) | (with_reducible refine balloc ?_ _) | (with_reducible refine Below.drew ?_) | (with_reducible refine bdrewN ?_ _) | (with_reducible refine bnext ?_ (by with_reducible assumption)) | exact Nat.le_refl _ | (simp; done) | omega | (simp; omega))))) (some ⟨w.heap.size, 0, none⟩) 1 1 [.pointer (some ⟨p, 0, none⟩)] (by rfl) (by rfl) (Cells.newAt _ _ _ (by rfl)) (by simp [Value.oneCell']) (by omega) (by unfold maxLen; omega) (Nat.le_trans (Nat.le_trans hB (Nat.le_of_lt lF)) (by simp)) ?_
  intro A6 c6 w6 hO6 hg6
  have hst6 : Stays w w6 (fun q => blkOf A = some q) := (Stays.of_below (by exact (by repeat (first | (with_reducible exact Below.refl _ _) | (with_reducible assumption) | (with_reducible refine bset ?_ ?_ _) | (with_reducible refine balloc ?_ _) | (with_reducible refine Below.drew ?_) | (with_reducible refine bdrewN ?_ _) | (with_reducible refine bnext ?_ (by with_reducible assumption)) | exact Nat.le_refl _ | (simp; done) | omega | (simp; omega)))) _).comp (Stays.grew hg6)
  have hO6 := Lib.hid hO6
  have HNW : Hid (∀ k, blkOf A6 = some k → blkOf A = some k ∨ w.heap.size ≤ k) := Lib.hid (fun k hk => (Newer.grew hg6 k hk).imp (fun e => e) (fun e => Nat.le_trans (by simp) e))
  have hb6 := H.out.box.stays hst6 H.out.far
  have f6 := hb6.frozen 0
  have l6 := hb6.lt
  have g6 := hb6.get 0
  have HFIN : Hid (FAt (w6.setCell ⟨Fb, 0, none⟩ (.slice A6 (fs.length + 1) c6)) B Fb A6 c6 (fs ++ [(p, t)]) ∧ Stays w (w6.setCell ⟨Fb, 0, none⟩ (.slice A6 (fs.length + 1) c6)) (fun k => k = Fb ∨ blkOf A = some k)) := Lib.hid (by
    have hs6 : Stays w (w6.setCell ⟨Fb, 0, none⟩ (.slice A6 (fs.length + 1) c6)) (fun k => k = Fb ∨ blkOf A = some k) := (hst6.mono fun _ _ e => .inr e).comp ((Stays.set _ _ _ _).mono fun _ _ e => .inl e)
    have hln : (fs ++ [(p, t)]).length = fs.length + 1 := by rw [List.length_append]; rfl
    refine ⟨⟨hB, ?_, ⟨?_, fun x hx => ?_⟩⟩, hs6⟩
    · rw [hln]
      simpa using hb6.set 0 (.slice A6 (fs.length + 1) c6)
    · rw [hln, List.map_append]
      exact hO6.out.setCell (hb6.apart hO6.out rowNeBox) _
    · have key : ∀ k cs, BlkA w k 55 cs → ¬ (k = Fb ∨ blkOf A = some k) := fun k cs hb e => by
        rcases e with e | e
        · exact hb.two H.out.box treeNeBox e
        · exact hb.apart H.out.rt.row treeNeRow e
      rcases List.mem_append.1 hx with hx | hx
      · exact (H.out.rt.tr x hx).stays hs6 key
      · rw [List.mem_singleton] at hx
        subst hx
        exact HT.out.stays hs6 key)
  clear hg6 hst6 hb6
  refine hK.out _ _ (fun h => absurd ((by kernel_rfl : false = _).trans h) Bool.false_ne_true) ?_
  clear hK K
  try simp only [Act.put, List.getElem_toArray, List.getElem_cons_succ, List.getElem_cons_zero, List.setIfInBounds_toArray, List.set_cons_zero, List.set_cons_succ]
  refine wpAnyT_pure (i := 8) (v := ?_) rfl (by kernel_rfl) (by kernel_rfl) (by kernel_rfl) (fun _ _ _ h => h) (.inl ⟨by kernel_rfl, ?_⟩) (fun h => absurd ((by kernel_rfl : false = _).trans h) Bool.false_ne_true) ?_ (by decide)
  rotate_left
  · intro w9; go_simp; try with_reducible rfl
  try simp only [Act.put, List.getElem_toArray, List.getElem_cons_succ, List.getElem_cons_zero, List.setIfInBounds_toArray, List.set_cons_zero, List.set_cons_succ]
  refine wpAnyT_next (i := 9) (by kernel_rfl) rfl ?_
  intro K hK
  go_simp
  refine hK.out _ _ (fun h => absurd ((by kernel_rfl : false = _).trans h) Bool.false_ne_true) ?_
  clear hK K
  refine wpAnyT_done (by kernel_rfl) ?_ _
  --push>
  go_wp2
  go_end0
  refine ⟨rfl, A6, c6, ?_, ?_, HNW.out⟩
  · exact HFIN.out.1
  · exact HFIN.out.2
set_option maxRecDepth 100000 in
set_option maxHeartbeats 1000000 in
theorem forest_Pop (B Fb : Nat) (A : Option Addr) (c : Nat) (fs : List (Nat × hl.T)) (w : World) (h : FAt w B Fb A c fs) (h0 : 0 < fs.length) :
    Calls Try.prog 83 #[.pointer (some ⟨Fb, 0, none⟩)] w fun e w' => e = .returned (.iface 52 (.pointer (some ⟨(fs.getD (fs.length - 1) ho.ez).1, 0, none⟩))) ∧ FAt w' B Fb A c (fs.take (fs.length - 1)) ∧ Stays w w' (fun k => k = Fb) := by
  have H := Lib.hid h
  obtain ⟨g, rfl, _, hg, a0⟩ := h.rt.at_ (show fs.length - 1 < fs.length by omega)
  have f0 := h.box.get 0
  have ff := h.box.frozen 0
  have lF := h.box.lt
  simp only [List.getElem?_toArray, List.getElem?_cons_zero] at f0
  have hcap := h.rt.row.cap
  have HFIN : Hid (∀ n : Nat, n = fs.length - 1 → FAt (w.setCell ⟨Fb, 0, none⟩ (.slice (some ⟨g, 0, none⟩) n c)) B Fb (some ⟨g, 0, none⟩) c (fs.take (fs.length - 1)) ∧ Stays w (w.setCell ⟨Fb, 0, none⟩ (.slice (some ⟨g, 0, none⟩) n c)) (fun k => k = Fb)) := Lib.hid (fun n hn => by
    subst hn
    have hs := Stays.set w Fb 0 (.slice (some ⟨g, 0, none⟩) (fs.length - 1) c)
    have hln : (fs.take (fs.length - 1)).length = fs.length - 1 := by rw [List.length_take]; omega
    refine ⟨⟨H.out.lo, ?_, ⟨?_, fun x hx => (H.out.rt.tr x (List.mem_of_mem_take hx)).stays hs (fun k cs hb e => hb.two H.out.box treeNeBox e)⟩⟩, hs⟩
    · rw [hln]
      simpa using H.out.box.set 0 (.slice (some ⟨g, 0, none⟩) (fs.length - 1) c)
    · rw [hln, List.map_take]
      exact (H.out.rt.row.front1 (by omega)).stays hs (fun k hk e => H.out.far (e ▸ hk)))
  generalize (fs.getD (fs.length - 1) ho.ez).1 = p at *
  obtain ⟨m, hm⟩ : ∃ m, fs.length = m + 1 := ⟨fs.length - 1, by omega⟩
  unfold maxLen at hcap
  rw [hm] at a0 f0 hcap HFIN h0
  simp only [Nat.add_sub_cancel] at a0 HFIN
  rw [hm]
  simp only [Nat.add_sub_cancel]
  have hw1 : IntKind.i64.wrap (((m + 1 : Nat) : Int) - 1) = (m : Int) := by rw [show ((m + 1 : Nat) : Int) - 1 = (m : Int) by omega]; exact IntWalk.i64_in _ (by omega)
  have hwm : (m : Int) < ((m + 1 : Nat) : Int) := by omega
  clear h hm
  go_enter Try.func83, Try.ntmps83
  go_wp2
  go_ret
  exact ⟨rfl, HFIN.out _ rfl⟩
end Go.Proofs.Ytkbmpppendelcaa
