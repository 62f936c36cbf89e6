/- Package fair: no, sent. No condition. -/
import Derived.Test.YtedbidblnjajdaaFair
import Derived.Test.YtedbidblnjajdaaSl
import Derived.Deep.RegionLaw
import Derived.Deep.DeepCutAuto
import Derived.BigQuiet
import Derived.IntWalk
namespace Go.Proofs.Ytedbidblnjajdaa
open Go.RowKit

theorem fr.elemI : ElemT Try.prog 68 3 1 8 := ElemT.of Try.underlying68 (z := .int .i64 0) (by kernel_rfl) rfl (by decide)
theorem fair_no (n : Int) (w : World) : Calls Try.prog 76 #[.int .i64 n] w fun e w' => e = .returned (.agg #[.int .i64 n, .int .i64 0, .int .i64 0]) ∧ Below w.heap.size w w' := by
  go_enter Try.func76, Try.ntmps76
  go_wp2
  exact bodyPost_ret (v := .agg #[.int .i64 n, .int .i64 0, .int .i64 0]) (by first | (simp [results, Try.results76, go_sem]; done) | (simp [results, Try.results76, go_sem, *]; done)) rfl ⟨rfl, (by repeat (first | (with_reducible exact Below.refl _ _) | (with_reducible assumption) | (with_reducible refine bset ?_ ?_ _) | (with_reducible refine balloc ?_ _) | (with_reducible refine Below.drew ?_) | (with_reducible refine bdrewN ?_ _) | (with_reducible refine bnext ?_ (by with_reducible assumption)) | exact Nat.le_refl _ | (simp; done) | omega | (simp; omega)))⟩

def fr.fedOf (s : fr.St) : Nat → Bool := fun j => s.f && decide (s.t.head? = some j)
def Ring (w : World) (B0 base R G nq : Nat) (q : Nat → Int) (s : fr.St) (No : Nat → Prop) : Prop := ∃ A c At ct cG, RingAt w B0 base R G nq q s.w s.d (fr.fedOf s) s.t A c At ct cG No
theorem Ring.keep {w w' : World} {B0 base R G nq : Nat} {q : Nat → Int} {s : fr.St} {No No' : Nat → Prop} (h : Ring w B0 base R G nq q s No) (hk : ∀ j, j < w.heap.size → ¬ No j → w'.heap[j]? = w.heap[j]?) (hs : w.heap.size ≤ w'.heap.size) (hn : ∀ j, No' j → No j ∨ w.heap.size ≤ j) : Ring w' B0 base R G nq q s No' :=
  let ⟨A, c, At, ct, cG, h⟩ := h; ⟨A, c, At, ct, cG, h.keep hk hs hn⟩
theorem OwnF.cut_blk {w : World} {base : Nat} {e : TypeId} {A : Option Addr} {n c : Nat} {l : List Int} (h : OwnF w base e A n c l) : blkOf (cutA A c 1 1) = blkOf A :=
  cutA_blk fun a ha => by
    rcases h.2 with ⟨e1, _⟩ | ⟨g, off, cur, e1, _⟩
    · rw [e1] at ha; cases ha
    · rw [e1] at ha; cases ha; rfl
theorem RingAt.fedAs {w : World} {B0 base R G nq : Nat} {q : Nat → Int} {W : Nat → List Int} {d d' : Nat → Int} {W' : Nat → List Int} {fed fed' : Nat → Bool} {T T' : List Nat} {A : Nat → Option Addr} {c : Nat → Nat} {At : Option Addr} {ct cG : Nat} {No : Nat → Prop}
    (h : RingAt w B0 base R G nq q W d fed T A c At ct cG No) (hf : ∀ j, j < nq → fed' j = fed j) (hd : d' = d) (hW : W' = W) (hT : T' = T) : RingAt w B0 base R G nq q W' d' fed' T' A c At ct cG No := by
  subst hd; subst hW; subst hT
  exact { h with fs := fun j hj => by rw [hf j hj]; exact h.fs j hj }

theorem heap_set {w : World} (p : Addr) {v : Value} {j : Nat} (h : j ≠ p.block) : (w.setCell p v).heap[j]? = w.heap[j]? := Below.heap_setCell w p v j h
theorem heap_drew {w : World} {j : Nat} : w.drew.heap[j]? = w.heap[j]? := rfl
theorem below_set {B : Nat} {a w : World} (p : Addr) {v : Value} (h : Below B a w) (hp : B ≤ p.block) : Below B a (w.setCell p v) := h.setCell hp v

set_option maxRecDepth 100000 in
set_option maxHeartbeats 4000000 in
theorem fair_sent (B0 base R G nq : Nat) (q : Nat → Int) (s : fr.St) (i : Nat) (tl : List Nat) (No : Nat → Prop) (w : World) (h : Ring w B0 base R G nq q s No) (hinv : fr.Inv nq s) (ht : s.t = i :: tl) (hf : s.f = true) (hle : fr.first s i ≤ s.d i) (hN : ∀ g, No g → g < w.heap.size) (hnq : nq ≤ 6) :
    Calls Try.prog 90 #[.pointer (some ⟨R, 0, none⟩), .int .i64 i] w fun e w' => e = .returned (.agg #[.int .i64 0, .int .i64 i, .int .i64 (fr.first s i)]) ∧ Ring w' B0 base R G nq q (fr.sent s i tl) No ∧ Below B0 w w' ∧ ∀ g, No g → w'.heap[g]? = w.heap[g]? := by
  obtain ⟨A, c, At, ct, cG, hr⟩ := h
  have hi := (hinv.waits i (by rw [ht]; simp)).1
  have hne := (hinv.waits i (by rw [ht]; simp)).2
  have hod := hinv.owed i
  have hfp := fr.first_pos hinv (i := i) (by rw [ht]; simp)
  obtain ⟨x, r, hw⟩ : ∃ x r, s.w i = x :: r := by
    cases hs : s.w i with
    | nil => exact absurd hs hne
    | cons x r => exact ⟨x, r, rfl⟩
  have hfx : fr.first s i = x := by unfold fr.first; rw [hw]; rfl
  rw [hfx] at hle hfp
  rw [hfx]
  have HR := Lib.hid hr
  have HW := Lib.hid hw
  have HT := Lib.hid ht
  have HF := Lib.hid hf
  have HFX := Lib.hid hfx
  have HN := Lib.hid hN
  obtain ⟨l1, l2, l3, l4, l5, l6⟩ := hr.lo
  have k0 := hr.r0
  have k1 := hr.r1
  have kf := hr.fr
  have kg := hr.fg
  have m1 := hr.ws i hi
  have m2 := hr.ds i hi
  have m3 := hr.fs i hi
  rw [hw, List.length_cons] at m1
  rw [ht, List.length_cons] at k1
  have ho := hr.own i hi
  rw [hw, List.length_cons] at ho
  obtain ⟨g, off, hA, hga, hgb, hgx⟩ := ho.cell (j := 0) (by simp)
  simp only [List.getD_cons_zero, Nat.add_zero] at hgx
  have hcut := fun V => run_cut_l (P := Try.prog) fr.elemI (A i) (r.length + 1) (c i) 1 (by omega) 1 rfl V
  have hcuT := fun V => run_cut_l (P := Try.prog) fr.elemI At (tl.length + 1) ct 1 (by omega) 1 rfl V
  have HO := Lib.hid ho
  rw [hA] at m1 hcut
  generalize hdi : s.d i = di at *
  have HDI := Lib.hid hdi
  have hii : (i : Int) < (nq : Int) := by omega
  have hRw : R < w.heap.size := by omega
  have hGw : G < w.heap.size := by omega
  clear hr hw ht hf hfx hN ho hinv hne hdi
  go_enter Try.func90, Try.ntmps90
  go_upto_region 3 with fail
  obtain ⟨w1, hw1⟩ : ∃ w1, w1 = ((w.alloc (.cells #[.int .i64 0, .int .i64 0, .int .i64 0] 74)).alloc (.cells #[.int .i64 0, .int .i64 i, .int .i64 x] 74)) := ⟨_, rfl⟩
  have hb1 : Below w.heap.size w w1 := by rw [hw1]; exact (by repeat (first | (with_reducible exact Below.refl _ _) | (with_reducible assumption) | (with_reducible refine bset ?_ ?_ _) | (with_reducible refine balloc ?_ _) | (with_reducible refine Below.drew ?_) | (with_reducible refine bdrewN ?_ _) | (with_reducible refine bnext ?_ (by with_reducible assumption)) | exact Nat.le_refl _ | (simp; done) | omega | (simp; omega)))
  have hz1 : w1.heap.size = w.heap.size + 2 := by rw [hw1]; simp
  have y0 : w1.cell? ⟨w.heap.size + 1, 0, none⟩ = some (.int .i64 0) := by rw [hw1]; simp [go_sem]
  have y1 : w1.cell? ⟨w.heap.size + 1, 1, none⟩ = some (.int .i64 i) := by rw [hw1]; simp [go_sem]
  have y2 : w1.cell? ⟨w.heap.size + 1, 2, none⟩ = some (.int .i64 x) := by rw [hw1]; simp [go_sem]
  have u0 : w1.cell? ⟨w.heap.size, 0, none⟩ = some (.int .i64 0) := by rw [hw1]; simp [go_sem]
  have u1 : w1.cell? ⟨w.heap.size, 1, none⟩ = some (.int .i64 0) := by rw [hw1]; simp [go_sem]
  have u2 : w1.cell? ⟨w.heap.size, 2, none⟩ = some (.int .i64 0) := by rw [hw1]; simp [go_sem]
  have uf : ∀ o, w1.frozen? ⟨w.heap.size, o, none⟩ = false := fun o => by rw [hw1]; simp [go_sem]
  rw [← hw1]
  clear hw1
  have HN1 : Hid (RingAt w1 B0 base R G nq q s.w s.d (fr.fedOf s) s.t A c At ct cG (fun j => No j ∨ j = w.heap.size ∨ j = w.heap.size + 1)) := Lib.hid (HR.out.keep (fun j hj _ => hb1.block j hj) hb1.size (fun j h => h.imp id (fun e => by omega)))
  have k0' := (hb1.cell (p := ⟨R, 0, none⟩) hRw).trans k0
  have k1' := (hb1.cell (p := ⟨R, 1, none⟩) hRw).trans k1
  have kf' : ∀ o, w1.frozen? ⟨R, o, none⟩ = false := fun o => (hb1.frozen (p := ⟨R, o, none⟩) hRw).trans (kf o)
  have kg' : ∀ o, w1.frozen? ⟨G, o, none⟩ = false := fun o => (hb1.frozen (p := ⟨G, o, none⟩) hGw).trans (kg o)
  have m1' := (hb1.cell (p := ⟨G, i * 4 + 1, none⟩) hGw).trans m1
  have m2' := (hb1.cell (p := ⟨G, i * 4 + 2, none⟩) hGw).trans m2
  have m3' := (hb1.cell (p := ⟨G, i * 4 + 3, none⟩) hGw).trans m3
  have hwr : IntKind.i64.wrap (di - x) = di - x := IntWalk.i64_in _ (by omega)
  have hRG : R ≠ G := l3
  have hGR : G ≠ R := fun e => l3 e.symm
  have hRz : R ≠ w.heap.size := by omega
  have hGz : G ≠ w.heap.size := by omega
  have hRy : R ≠ w.heap.size + 1 := by omega
  have hGy : G ≠ w.heap.size + 1 := by omega
  clear k0 k1 kf kg m1 m2 m3 hgx
  have H2 := Lib.hid (HN1.out.debt hi (di - x))
  have hnew : ∀ g, (No g ∨ g = w.heap.size ∨ g = w.heap.size + 1) → g < (w1.setCell ⟨G, i * 4 + 2, none⟩ (.int .i64 (di - x))).heap.size := fun g hg => by
    have h0 : (w1.setCell ⟨G, i * 4 + 2, none⟩ (.int .i64 (di - x))).heap.size = w1.heap.size := by simp [World.setCell]
    rw [h0, hz1]
    rcases hg with hg | hg | hg
    · have := HN.out g hg; omega
    · omega
    · omega
  have h3 := H2.out.own i hi
  rw [HW.out, List.length_cons] at h3
  have H3 := Lib.hid (H2.out.waits (i := i) (A' := cutA (A i) (c i) 1 1) (n' := r.length) (c' := c i - 1) (W' := r) hi ⟨World.grownBy.refl _ _, .inl h3.cut_blk⟩ h3.tail hnew)
  clear h3 H2
  rw [hA] at H3
  have HBB : Hid (Below B0 w w1) := Lib.hid (hb1.mono (by omega))
  have hoff := HR.out.off
  have HOFF := Lib.hid hoff
  clear hoff
  by_cases hr0 : r.length = 0
  · have hr1 : ((r.length : Int) == 0) = true := by rw [beq_iff_eq]; omega
    have HR0 := Lib.hid hr0
    clear hr0
    have HX : Hid (fr.sent s i tl = ⟨fr.upd s.w i [], fr.upd s.d i 0, tl, false⟩) := Lib.hid (by unfold fr.sent; rw [HW.out, List.tail_cons, if_pos (List.eq_nil_of_length_eq_zero HR0.out)])
    have hrn : r = [] := List.eq_nil_of_length_eq_zero HR0.out
    have H5 := Lib.hid ((H3.out.debt hi 0).fedTo hi false)
    have h6 := H5.out.turn
    rw [HT.out, List.length_cons, List.map_cons] at h6
    have H6 := Lib.hid (H5.out.turnTo (A' := cutA At ct 1 1) (n' := tl.length) (c' := ct - 1) (T' := tl) ⟨World.grownBy.refl _ _, .inl h6.cut_blk⟩ h6.tail (fun g hg => by have h0 := hnew g hg; simp only [World.size_setCell] at h0 ⊢; exact h0))
    clear H5 h6
    have HRN := Lib.hid hrn
    clear hrn
    go_region_law (fail)
    all_goals
      go_wp2
      refine bodyPost_ret (v := .agg #[.int .i64 0, .int .i64 i, .int .i64 x]) (by simp [results, Try.results90, go_sem, isSome_setCell, u0, u1, u2]) rfl ⟨rfl, ?_, ?_, ?_⟩
      · rw [HX.out]
        refine Ring.keep (No := fun j => No j ∨ j = w.heap.size ∨ j = w.heap.size + 1) ⟨_, _, _, _, _, H6.out.fedAs (fun j _ => ?_) ?_ ?_ rfl⟩ (fun j hj hn => ?_) (by simp) (fun j h => .inl (.inl h))
        · by_cases e : j = i
          · subst e; rw [fr.upd_same]; rfl
          · rw [fr.upd_other _ _ e]
            unfold fr.fedOf
            rw [HT.out]
            simp only [List.head?_cons, Option.some.injEq]
            rw [decide_eq_false (fun e2 : i = j => e e2.symm), Bool.and_false]
            rfl
        · funext j
          by_cases e : j = i
          · subst e; simp only [fr.upd_same]
          · simp only [fr.upd_other _ _ e]
        · simp only [HRN.out]
        · have hjz : j ≠ w.heap.size := fun e => hn (.inr (.inl e))
          rw [heap_drew, heap_set ⟨w.heap.size, 2, none⟩ hjz, heap_set ⟨w.heap.size, 1, none⟩ hjz, heap_set ⟨w.heap.size, 0, none⟩ hjz]
      · exact Below.drew ((((((((HBB.out.setCell (p := ⟨G, _, none⟩) l2 _).setCell (p := ⟨G, _, none⟩) l2 _).setCell (p := ⟨G, _, none⟩) l2 _).setCell (p := ⟨G, _, none⟩) l2 _).setCell (p := ⟨R, _, none⟩) l1 _).setCell (p := ⟨w.heap.size, _, none⟩) (by simp only; omega) _).setCell (p := ⟨w.heap.size, _, none⟩) (by simp only; omega) _).setCell (p := ⟨w.heap.size, _, none⟩) (by simp only; omega) _)
      · intro g' hg'
        have hlt := HN.out g' hg'
        have e1 : g' ≠ G := fun e => HOFF.out.2 (e ▸ hg')
        have e3 : g' ≠ R := fun e => HOFF.out.1 (e ▸ hg')
        have e2 : g' ≠ w.heap.size := by omega
        rw [heap_drew, heap_set ⟨w.heap.size, 2, none⟩ e2, heap_set ⟨w.heap.size, 1, none⟩ e2, heap_set ⟨w.heap.size, 0, none⟩ e2, heap_set ⟨R, 1, none⟩ e3, heap_set ⟨G, i * 4 + 3, none⟩ e1, heap_set ⟨G, i * 4 + 2, none⟩ e1, heap_set ⟨G, i * 4 + 1, none⟩ e1, heap_set ⟨G, i * 4 + 2, none⟩ e1]
        exact hb1.block g' hlt
  · have hr1 : ((r.length : Int) == 0) = false := by rw [beq_eq_false_iff_ne]; omega
    have HR0 := Lib.hid hr0
    clear hr0
    have HX : Hid (fr.sent s i tl = ⟨fr.upd s.w i r, fr.upd s.d i (di - x), s.t, s.f⟩) := Lib.hid (by unfold fr.sent; rw [HW.out, List.tail_cons, if_neg (fun e => HR0.out (by rw [e]; rfl)), HFX.out, HDI.out])
    go_region_law (fail)
    all_goals
      go_wp2
      refine bodyPost_ret (v := .agg #[.int .i64 0, .int .i64 i, .int .i64 x]) (by simp [results, Try.results90, go_sem, isSome_setCell, u0, u1, u2]) rfl ⟨rfl, ?_, ?_, ?_⟩
      · rw [HX.out]
        refine Ring.keep (No := fun j => No j ∨ j = w.heap.size ∨ j = w.heap.size + 1) ⟨_, _, _, _, _, H3.out.fedAs (fun _ _ => rfl) rfl rfl rfl⟩ (fun j hj hn => ?_) (by simp) (fun j h => .inl (.inl h))
        have hjz : j ≠ w.heap.size := fun e => hn (.inr (.inl e))
        rw [heap_drew, heap_set ⟨w.heap.size, 2, none⟩ hjz, heap_set ⟨w.heap.size, 1, none⟩ hjz, heap_set ⟨w.heap.size, 0, none⟩ hjz]
      · exact Below.drew (((((HBB.out.setCell (p := ⟨G, _, none⟩) l2 _).setCell (p := ⟨G, _, none⟩) l2 _).setCell (p := ⟨w.heap.size, _, none⟩) (by simp only; omega) _).setCell (p := ⟨w.heap.size, _, none⟩) (by simp only; omega) _).setCell (p := ⟨w.heap.size, _, none⟩) (by simp only; omega) _)
      · intro g' hg'
        have hlt := HN.out g' hg'
        have e1 : g' ≠ G := fun e => HOFF.out.2 (e ▸ hg')
        have e2 : g' ≠ w.heap.size := by omega
        rw [heap_drew, heap_set ⟨w.heap.size, 2, none⟩ e2, heap_set ⟨w.heap.size, 1, none⟩ e2, heap_set ⟨w.heap.size, 0, none⟩ e2, heap_set ⟨G, i * 4 + 1, none⟩ e1, heap_set ⟨G, i * 4 + 2, none⟩ e1]
        exact hb1.block g' hlt
end Go.Proofs.Ytedbidblnjajdaa
