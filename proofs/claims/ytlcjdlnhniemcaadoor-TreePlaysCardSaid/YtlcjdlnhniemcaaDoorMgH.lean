/- Texts in one: TreeR1, TreeR2, TreeR3. No condition. -/
import Derived.Test.YtlcjdlnhniemcaaDoorTree11
import Derived.Test.YtlcjdlnhniemcaaDoorMgF
import Derived.Test.YtlcjdlnhniemcaaDoorMgE
import Derived.Test.YtlcjdlnhniemcaaDoorTree12
section
namespace Go.Proofs.YtlcjdlnhniemcaaDoor
open Go.RowKit
set_option linter.unusedSimpArgs false
set_option linter.unusedVariables false

/-- a node and where its bytes lie -/
structure ItA where
  it : tr.Item
  A : Option Addr
  c : Nat
def ItA.cells (x : ItA) : List Value := [.int .i64 x.it.kind, .int .i64 x.it.par, .string (strOf x.it.name), .slice x.A x.it.data.length x.c, .string (strOf x.it.to), .bool x.it.gone]
/-- the nodes in memory -/
structure WdAt (w : World) (B Wb M : Nat) (W : List tr.Item) (g c : Nat) (ia : List ItA) : Prop where
  inv : tr.Inv W
  eq : ia.map ItA.it = W
  blk : BlkA w Wb 69 #[.slice (some ⟨g, 0, none⟩) W.length c]
  own : Own w B 66 6 (some ⟨g, 0, none⟩) W.length c (ia.flatMap ItA.cells)
  rows : ∀ x ∈ ia, Own w B 5 1 x.A x.it.data.length x.c (x.it.data.map u8v)
  lo : B ≤ Wb
  few : W.length ≤ M + 1
/-- their blocks -/
def WF (Wb g : Nat) (k : Nat) : Prop := k = Wb ∨ k = g
section
variable {w w' : World} {B Wb M : Nat} {W : List tr.Item} {g c : Nat} {ia : List ItA}
theorem itemNeWoods : 66 ≠ 69 := by decide
theorem WdAt.ne (h : WdAt w B Wb M W g c ia) : g ≠ Wb := fun e => h.blk.apart h.own itemNeWoods (by rw [e]; rfl)
theorem WdAt.lt (h : WdAt w B Wb M W g c ia) {k : Nat} (hk : WF Wb g k) : B ≤ k ∧ k < w.heap.size := by
  rcases hk with rfl | rfl
  · exact ⟨h.lo, h.blk.lt⟩
  · exact h.own.lt k rfl
theorem WdAt.stays {No : Nat → Prop} (h : WdAt w B Wb M W g c ia) (hs : Stays w w' No) (hn : ∀ k, B ≤ k → k < w.heap.size → ¬ No k) : WdAt w' B Wb M W g c ia :=
  ⟨h.inv, h.eq, h.blk.stays hs (hn _ h.lo h.blk.lt), h.own.stays hs (fun k hk => hn k (h.own.lt k hk).1 (h.own.lt k hk).2), fun x hx => (h.rows x hx).stays hs (fun k hk => hn k ((h.rows x hx).lt k hk).1 ((h.rows x hx).lt k hk).2), h.lo, h.few⟩
theorem u8NeItem : 5 ≠ 66 := by decide
theorem u8NeWoods : 5 ≠ 69 := by decide
/-- a row of bytes lies apart from the nodes -/
theorem WdAt.rowFar (h : WdAt w B Wb M W g c ia) {x : ItA} (hx : x ∈ ia) {k : Nat} (hk : blkOf x.A = some k) : k ≠ Wb ∧ k ≠ g := by
  refine ⟨fun e => h.blk.apart (h.rows x hx) u8NeWoods (by rw [hk, e]), fun e => ?_⟩
  rcases Own.two (h.rows x hx) h.own u8NeItem with e2 | e2
  · rw [e2] at hk; cases hk
  · exact e2 (by rw [hk, e]; rfl)
theorem WdAt.staysF {No : Nat → Prop} (h : WdAt w B Wb M W g c ia) (hs : Stays w w' No) (h1 : ¬ No Wb) (h2 : ¬ No g) (h3 : ∀ x ∈ ia, ∀ k, blkOf x.A = some k → ¬ No k) : WdAt w' B Wb M W g c ia :=
  ⟨h.inv, h.eq, h.blk.stays hs h1, h.own.stays hs (fun k hk e => h2 (by rw [show g = k by simpa [blkOf] using hk]; exact e)), fun x hx => (h.rows x hx).stays hs (h3 x hx), h.lo, h.few⟩
theorem WdAt.next (h : WdAt w B Wb M W g c ia) (hb : Below w.heap.size w w') : WdAt w' B Wb M W g c ia := h.stays (Stays.of_below hb fun _ => False) fun _ _ _ e => e
theorem WdAt.mono (h : WdAt w B Wb M W g c ia) {M' : Nat} (hM : M ≤ M') : WdAt w B Wb M' W g c ia := ⟨h.inv, h.eq, h.blk, h.own, h.rows, h.lo, Nat.le_trans h.few (by omega)⟩
theorem WdAt.len (h : WdAt w B Wb M W g c ia) : ia.length = W.length := by rw [← h.eq, List.length_map]
/-- a node's cells -/
theorem WdAt.at (h : WdAt w B Wb M W g c ia) {i : Nat} (hi : i < W.length) : ∃ A d, ia[i]? = some ⟨tr.it W i, A, d⟩ ∧ w.cell? ⟨g, i * 6, none⟩ = some (.int .i64 (tr.it W i).kind) ∧ w.cell? ⟨g, i * 6 + 1, none⟩ = some (.int .i64 (tr.it W i).par) ∧ w.cell? ⟨g, i * 6 + 2, none⟩ = some (.string (strOf (tr.it W i).name)) ∧
    w.cell? ⟨g, i * 6 + 3, none⟩ = some (.slice A (tr.it W i).data.length d) ∧ w.cell? ⟨g, i * 6 + 4, none⟩ = some (.string (strOf (tr.it W i).to)) ∧ w.cell? ⟨g, i * 6 + 5, none⟩ = some (.bool (tr.it W i).gone) ∧ SlRep Rep.u8 w (fun k => B ≤ k ∧ k < w.heap.size) (tr.it W i).data A d := by
  have hl : i < ia.length := by rw [h.len]; exact hi
  obtain ⟨x, hx⟩ : ∃ x, ia[i]? = some x := ⟨_, List.getElem?_eq_getElem hl⟩
  have e : x.it = tr.it W i := by
    have h1 := tr.it_at hi
    rw [← h.eq, List.getElem?_map, hx] at h1
    rw [← h.eq]
    exact Option.some.inj h1
  have hc : ∀ j, j < 6 → ∀ v, x.cells[j]? = some v → w.cell? ⟨g, i * 6 + j, none⟩ = some v := fun j hj v hv => by
    obtain ⟨g', e1, _, _, hcc⟩ := h.own.cell (j := i * 6 + j) (u := v) (by rw [flatMap_at ItA.cells 6 (fun _ => rfl) ia i x hx j hj]; exact hv)
    simp only [Option.some.injEq, Addr.mk.injEq, and_true] at e1
    rw [e1]
    exact hcc
  have hr := (h.rows x (List.mem_of_getElem? hx)).u8.2
  rw [e] at hr
  refine ⟨x.A, x.c, ?_, ?_, ?_, ?_, ?_, ?_, ?_, hr⟩
  · rw [hx, ← e]
  · rw [← e]; exact hc 0 (by omega) _ rfl
  · rw [← e]; exact hc 1 (by omega) _ rfl
  · rw [← e]; exact hc 2 (by omega) _ rfl
  · rw [← e]; exact hc 3 (by omega) _ rfl
  · rw [← e]; exact hc 4 (by omega) _ rfl
  · rw [← e]; exact hc 5 (by omega) _ rfl
theorem WdAt.row (h : WdAt w B Wb M W g c ia) : w.cell? ⟨Wb, 0, none⟩ = some (.slice (some ⟨g, 0, none⟩) W.length c) := h.blk.get 0
end
def tr.childI (W : List tr.Item) (d : Nat) (nm : List UInt8) : Int := match tr.child W d nm with
  | none => -1
  | some i => i
set_option maxRecDepth 100000 in
set_option maxHeartbeats 2000000 in
theorem ref_child {B Wb M : Nat} {W : List tr.Item} {g c : Nat} {ia : List ItA} (d : Nat) (nm : List UInt8) (w : World) (h : WdAt w B Wb M W g c ia) (hM : M ≤ 1000000) :
    Calls Tryd.prog 35 #[.pointer (some ⟨Wb, 0, none⟩), .int .i64 (d : Int), .string (strOf nm)] w fun e w' => e = .returned (.int .i64 (tr.childI W d nm)) ∧ Below w.heap.size w w' := by
  obtain ⟨R, hR⟩ : ∃ R, R = tr.childI W d nm := ⟨_, rfl⟩
  rw [← hR]
  have HRN : Hid ((∀ j, j < W.length → tr.isChild W d nm j = false) → R = -1) := Lib.hid (fun hn => by rw [hR]; unfold tr.childI; rw [tr.child_no hn])
  have HRS : Hid (∀ i, i < W.length → tr.isChild W d nm i = true → R = (i : Int)) := Lib.hid (fun i hi hc => by rw [hR]; unfold tr.childI; rw [(tr.child_iff h.inv).2 hc])
  have H := Lib.hid h
  have hc0 := h.row
  have hWl := h.blk.lt
  have hfew := h.few
  clear h hR
  go_enter Tryd.func35, Tryd.ntmps35
  go_wp2
  go_loopw [14] (fun s14 wr => ∃ k : Nat, k ≤ W.length ∧ s14 = .int .i64 (k : Int) ∧ Hid (Below w.heap.size w wr ∧ ∀ j, j < k → tr.isChild W d nm j = false)) (fun s14 _ => W.length - (intOf s14).toNat)
  case atStart => exact ⟨0, by omega, rfl, Lib.hid ⟨bself _, fun j hj => by omega⟩⟩
  case round =>
    obtain ⟨k, hk, rfl, HJ⟩ := hrel
    rename World => wr
    by_cases hlt : k < W.length
    · have hlt' : (k : Int) < (W.length : Int) := by omega
      obtain ⟨A, dd, _, q0, q1, q2, q3, q4, q5, _⟩ := (H.out.next HJ.out.1).at hlt
      have hgl := ((H.out.next HJ.out.1).lt (.inr rfl)).2
      have HNX : Hid (tr.isChild W d nm k = false → ∀ w2, Below wr.heap.size wr w2 → Hid (Below w.heap.size w w2 ∧ ∀ j, j < k + 1 → tr.isChild W d nm j = false)) := Lib.hid (fun hc w2 hb => Lib.hid ⟨bnext HJ.out.1 hb, fun j hj => by
        rcases Nat.lt_or_ge j k with h1 | h1
        · exact HJ.out.2 j h1
        · rw [show j = k by omega]; exact hc⟩)
      have HB := Lib.hid HJ.out.1
      have HFD := Lib.hid (fun hc => HRS.out k hlt hc)
      have HIS : Hid (tr.isChild W d nm k = (decide (0 < k) && !(tr.it W k).gone && decide ((tr.it W k).par = (d : Int)) && decide ((tr.it W k).name = nm))) := Lib.hid rfl
      clear HJ HRN HRS
      generalize tr.isChild W d nm k = ic at *
      cases hgn : (tr.it W k).gone with
      | true =>
        rw [hgn] at q5
        have HN := Lib.hid (HNX.out (by rw [HIS.out, hgn]; simp))
        clear hgn
        go_wp2
        go_roundw
        case rel => exact ⟨k + 1, by omega, by go_num, HN.out _ (by exact (by repeat (first | (with_reducible exact Below.refl _ _) | (with_reducible assumption) | (with_reducible refine bset ?_ ?_ _) | (with_reducible refine balloc ?_ _) | (with_reducible refine Below.drew ?_) | (with_reducible refine bdrewN ?_ _) | (with_reducible refine bnext ?_ (by with_reducible assumption)) | exact Nat.le_refl _ | (simp; done) | omega | (simp; omega))))⟩
        case measure => simp [intOf]; omega
      | false =>
        rw [hgn] at q5
        by_cases hp : (tr.it W k).par = (d : Int)
        · by_cases hn : (tr.it W k).name = nm
          · by_cases h0 : 0 < k
            · have HF := Lib.hid (HFD.out (by rw [HIS.out, hgn]; simp [hp, hn, h0]))
              have h0' : (0 : Int) < (k : Int) := by omega
              have hp' : ((tr.it W k).par == (d : Int)) = true := by simpa using hp
              have hn' : ((tr.it W k).name == nm) = true := by simpa using hn
              clear hgn hp hn
              go_wp2
              go_ret
              rw [HF.out]
              exact ⟨rfl, bnext HB.out (by exact (by repeat (first | (with_reducible exact Below.refl _ _) | (with_reducible assumption) | (with_reducible refine bset ?_ ?_ _) | (with_reducible refine balloc ?_ _) | (with_reducible refine Below.drew ?_) | (with_reducible refine bdrewN ?_ _) | (with_reducible refine bnext ?_ (by with_reducible assumption)) | exact Nat.le_refl _ | (simp; done) | omega | (simp; omega))))⟩
            · have HN := Lib.hid (HNX.out (by rw [HIS.out]; simp [h0]))
              obtain rfl : k = 0 := by omega
              have hp' : ((tr.it W 0).par == (d : Int)) = true := by simpa using hp
              have hn' : ((tr.it W 0).name == nm) = true := by simpa using hn
              clear hgn hp hn
              go_wp2
              go_roundw
              case rel => exact ⟨1, by omega, by go_num, HN.out _ (by exact (by repeat (first | (with_reducible exact Below.refl _ _) | (with_reducible assumption) | (with_reducible refine bset ?_ ?_ _) | (with_reducible refine balloc ?_ _) | (with_reducible refine Below.drew ?_) | (with_reducible refine bdrewN ?_ _) | (with_reducible refine bnext ?_ (by with_reducible assumption)) | exact Nat.le_refl _ | (simp; done) | omega | (simp; omega))))⟩
              case measure => simp [intOf]; omega
          · have HN := Lib.hid (HNX.out (by rw [HIS.out]; simp [hn]))
            have hp' : ((tr.it W k).par == (d : Int)) = true := by simpa using hp
            have hn' : ((tr.it W k).name == nm) = false := by simpa using hn
            clear hgn hp hn
            go_wp2
            go_roundw
            case rel => exact ⟨k + 1, by omega, by go_num, HN.out _ (by exact (by repeat (first | (with_reducible exact Below.refl _ _) | (with_reducible assumption) | (with_reducible refine bset ?_ ?_ _) | (with_reducible refine balloc ?_ _) | (with_reducible refine Below.drew ?_) | (with_reducible refine bdrewN ?_ _) | (with_reducible refine bnext ?_ (by with_reducible assumption)) | exact Nat.le_refl _ | (simp; done) | omega | (simp; omega))))⟩
            case measure => simp [intOf]; omega
        · have HN := Lib.hid (HNX.out (by rw [HIS.out]; simp [hp]))
          have hp' : ((tr.it W k).par == (d : Int)) = false := by simpa using hp
          clear hgn hp
          go_wp2
          go_roundw
          case rel => exact ⟨k + 1, by omega, by go_num, HN.out _ (by exact (by repeat (first | (with_reducible exact Below.refl _ _) | (with_reducible assumption) | (with_reducible refine bset ?_ ?_ _) | (with_reducible refine balloc ?_ _) | (with_reducible refine Below.drew ?_) | (with_reducible refine bdrewN ?_ _) | (with_reducible refine bnext ?_ (by with_reducible assumption)) | exact Nat.le_refl _ | (simp; done) | omega | (simp; omega))))⟩
          case measure => simp [intOf]; omega
    · obtain rfl : k = W.length := by omega
      have HE := Lib.hid (HRN.out HJ.out.2)
      have HB := Lib.hid HJ.out.1
      clear HJ
      go_wp2
      go_ret
      rw [HE.out]
      exact ⟨rfl, HB.out⟩
end Go.Proofs.YtlcjdlnhniemcaaDoor
end
section
namespace Go.Proofs.YtlcjdlnhniemcaaDoor
open Go.RowKit Go.Sort Go.Shelf
set_option linter.unusedSimpArgs false
set_option linter.unusedVariables false

/-- sort.Strings on a row of the call's own -/
theorem sort_strs {w : World} {B0 n c : Nat} {A : Option Addr} {l : List (List UInt8)} (h : Own w B0 9 1 A n c (l.map pa.sv)) (hn : n ≤ 1000000000) :
    Calls Tryd.prog 44 #[.slice A n c] w fun e w' => e = .returned (.tuple #[]) ∧ Own w' B0 9 1 A n c ((tr.sorted l).map pa.sv) ∧ Stays w w' (fun k => blkOf A = some k) := by
  have hl : n = l.length := by have := h.len; rw [List.length_map, Nat.mul_one] at this; omega
  rcases h.2 with ⟨h1, h2⟩ | ⟨gb, cap, cur, h1, hbase, hgb, r1, r2, r3, r4⟩
  · simp only [Value.slice.injEq] at h1
    obtain ⟨rfl, rfl, rfl⟩ := h1
    have hl0 : l = [] := List.eq_nil_of_length_eq_zero hl.symm
    subst hl0
    refine (AnyM.slices_Sort_string_none sortA none 0 w).mono ?_
    rintro e w' ⟨rfl, rfl⟩
    exact ⟨rfl, by rw [show tr.sorted [] = [] by simp [tr.sorted]]; exact h, Stays.refl _ _⟩
  · simp only [Value.slice.injEq] at h1
    obtain ⟨rfl, _, rfl⟩ := h1
    subst hl
    have r4' : cur.toList.take (l.length * 1) = l.map encStr := r4
    have hH : Holds encStr w gb 0 l.toArray := holds_of_block hgb (by simpa using r4')
    have hgl : gb < w.heap.size := (Array.getElem?_eq_some_iff.1 hgb).1
    refine (AnyM.slices_Sort_string sortA gb 0 c l w hH hgl (by omega)).mono ?_
    rintro e w' ⟨rfl, k, os, rfl⟩
    refine ⟨rfl, ?_, ?_⟩
    · have h5 := ownsRow_sorted (ts := l.mergeSort fun x y => decide (x ≤ y)) (n := k) (os := os) (List.length_mergeSort _) hbase hgb r1 r2 r3
      exact h5
    · have hg := grownBy_sorted (w := w) (g := gb) (n := k) (os := os) (l.mergeSort fun x y => decide (x ≤ y)).toArray
      exact (Stays.grown hg).mono fun k _ h => by rw [h]; rfl
theorem sort_Strings {w : World} {n c : Nat} {A : Option Addr} {Q : Ending → World → Prop} (h : Calls Tryd.prog 44 #[.slice A n c] w fun e w' => e = .returned (.tuple #[]) ∧ Q e w') : Calls Tryd.prog 38 #[.slice A n c] w fun e w' => e = .returned (.tuple #[]) ∧ Q (.returned (.tuple #[])) w' := by
  have H := Lib.hid h
  clear h
  go_enter Tryd.func38, Tryd.ntmps38
  go_wp2_with (first
    | (go_at_call 44; ((with_reducible refine H.out.mono ?_); rintro e w5 ⟨rfl, hq⟩; have HQ := Lib.hid hq; clear hq))
    | fail)
  go_end0
  exact ⟨rfl, HQ.out⟩
/-- names of the kids among the first k nodes -/
def tr.kidsTo (W : List tr.Item) (d k : Nat) : List (List UInt8) := ((List.range k).filter (tr.kid W d)).map fun i => (tr.it W i).name
theorem tr.kidsTo_succ (W : List tr.Item) (d k : Nat) : tr.kidsTo W d (k + 1) = if tr.kid W d k = true then tr.kidsTo W d k ++ [(tr.it W k).name] else tr.kidsTo W d k := by
  unfold tr.kidsTo
  rw [List.range_succ, List.filter_append, List.map_append]
  by_cases h : tr.kid W d k = true
  · rw [if_pos h]; simp [h]
  · rw [if_neg h]; simp [h]
theorem tr.kidsTo_len (W : List tr.Item) (d k : Nat) : (tr.kidsTo W d k).length ≤ k := by
  unfold tr.kidsTo
  rw [List.length_map]
  exact Nat.le_trans (List.length_filter_le _ _) (by rw [List.length_range]; exact Nat.le_refl _)
theorem tr.kidsTo_all (W : List tr.Item) (d : Nat) : tr.kidsTo W d W.length = tr.namesIn W d := rfl
set_option maxRecDepth 100000 in
set_option maxHeartbeats 2000000 in
theorem ref_children {B Wb M : Nat} {W : List tr.Item} {g c : Nat} {ia : List ItA} (d : Nat) (w : World) (h : WdAt w B Wb M W g c ia) (hM : M ≤ 1000000) :
    Calls Tryd.prog 23 #[.pointer (some ⟨Wb, 0, none⟩), .int .i64 (d : Int)] w fun e w' => ∃ A c, e = .returned (.slice A (tr.namesIn W d).length c) ∧ Own w' w.heap.size 9 1 A (tr.namesIn W d).length c ((tr.sorted (tr.namesIn W d)).map pa.sv) ∧ Below w.heap.size w w' := by
  have H := Lib.hid h
  have hc0 := h.row
  have hWl := h.blk.lt
  have hfew := h.few
  have HALL := Lib.hid (tr.kidsTo_all W d)
  clear h
  go_enter Tryd.func23, Tryd.ntmps23
  go_wp2
  go_loopw [5, 13] (fun s5 s13 wr => ∃ (k : Nat) (Ao : Option Addr) (co : Nat), k ≤ W.length ∧ s13 = .int .i64 (k : Int) ∧ s5 = .slice Ao (tr.kidsTo W d k).length co ∧ Hid (Below w.heap.size w wr ∧ Own wr w.heap.size 9 1 Ao (tr.kidsTo W d k).length co ((tr.kidsTo W d k).map pa.sv))) (fun _ s13 _ => W.length - (intOf s13).toNat)
  case atStart => exact ⟨0, none, 0, by omega, rfl, rfl, Lib.hid ⟨bself _, Own.nil _ _ _ _⟩⟩
  case round =>
    obtain ⟨k, Ao, co, hk, rfl, rfl, HJ⟩ := hrel
    rename World => wr
    by_cases hlt : k < W.length
    · have hlt' : (k : Int) < (W.length : Int) := by omega
      obtain ⟨A, dd, _, q0, q1, q2, q3, q4, q5, _⟩ := (H.out.next HJ.out.1).at hlt
      have hgl := ((H.out.next HJ.out.1).lt (.inr rfl)).2
      have HB := Lib.hid HJ.out.1
      have HO := Lib.hid HJ.out.2
      have HIS : Hid (tr.kid W d k = (decide (0 < k) && !(tr.it W k).gone && decide ((tr.it W k).par = (d : Int)))) := Lib.hid rfl
      have HSC := Lib.hid (tr.kidsTo_succ W d k)
      have HLE := tr.kidsTo_len W d k
      have hws : w.heap.size ≤ wr.heap.size := HJ.out.1.size
      clear HJ
      have HSKIP : Hid (tr.kid W d k = false → ∀ w2, Below wr.heap.size wr w2 → ∃ (k' : Nat) (Ao' : Option Addr) (co' : Nat), k' ≤ W.length ∧ Value.int .i64 ((k : Int) + 1) = .int .i64 (k' : Int) ∧ Value.slice Ao (tr.kidsTo W d k).length co = .slice Ao' (tr.kidsTo W d k').length co' ∧ Hid (Below w.heap.size w w2 ∧ Own w2 w.heap.size 9 1 Ao' (tr.kidsTo W d k').length co' ((tr.kidsTo W d k').map pa.sv))) := Lib.hid (fun hc w2 hb => ⟨k + 1, Ao, co, by omega, rfl, by rw [HSC.out, if_neg (by rw [hc]; simp)], Lib.hid ⟨bnext HB.out hb, by rw [HSC.out, if_neg (by rw [hc]; simp)]; exact HO.out.next hb⟩⟩)
      generalize tr.kidsTo W d k = L at *
      by_cases h0 : 0 < k
      · have h0' : (0 : Int) < (k : Int) := by omega
        cases hgn : (tr.it W k).gone with
        | true =>
          rw [hgn] at q5
          have HN := Lib.hid (HSKIP.out (by rw [HIS.out, hgn]; simp))
          clear hgn
          go_wp2
          go_roundw
          case rel => exact HN.out _ (by exact (by repeat (first | (with_reducible exact Below.refl _ _) | (with_reducible assumption) | (with_reducible refine bset ?_ ?_ _) | (with_reducible refine balloc ?_ _) | (with_reducible refine Below.drew ?_) | (with_reducible refine bdrewN ?_ _) | (with_reducible refine bnext ?_ (by with_reducible assumption)) | exact Nat.le_refl _ | (simp; done) | omega | (simp; omega))))
          case measure => simp [intOf]; omega
        | false =>
          rw [hgn] at q5
          by_cases hp : (tr.it W k).par = (d : Int)
          · have HF : Hid (tr.kidsTo W d (k + 1) = L ++ [(tr.it W k).name]) := Lib.hid (by rw [HSC.out, if_pos (by rw [HIS.out, hgn]; simp [hp, h0])])
            have hp' : ((tr.it W k).par == (d : Int)) = true := by simpa using hp
            generalize (tr.it W k).name = nmk at *
            clear hgn hp
            go_wp2_with (first
              | (at_builtin; refine wp_app _ rfl _ _ _ rfl elemStr w.heap.size Ao L.length co (L.map pa.sv) rfl ((HO.out.alloc _).alloc _) _ 1 1 [_] rfl rfl (Cells.newAt _ _ _ (by simp)) (by simp [Value.oneCell']) (by omega) (by unfold maxLen; omega) (by simp only [World.size_alloc]; omega) ?_; intro A6 c6 w6 hO6 hg6; have HO6 := Lib.hid hO6; have HG6 := Lib.hid hg6; clear hO6 hg6)
              | fail)
            go_roundw
            case rel =>
              have e1 : L.length + 1 = (tr.kidsTo W d (k + 1)).length := by rw [HF.out, List.length_append]; rfl
              refine ⟨k + 1, A6, c6, by omega, by go_num, by rw [← e1], Lib.hid ⟨?_, ?_⟩⟩
              · exact (balloc (balloc HB.out _) _).trans (HG6.out.below (by simp only [World.size_alloc]; omega) (fun j hj => (HO.out.lt j hj).1))
              · rw [← e1, HF.out, List.map_append]
                exact HO6.out
            case measure => simp [intOf]; omega
          · have HN := Lib.hid (HSKIP.out (by rw [HIS.out]; simp [hp]))
            have hp' : ((tr.it W k).par == (d : Int)) = false := by simpa using hp
            clear hgn hp
            go_wp2
            go_roundw
            case rel => exact HN.out _ (by exact (by repeat (first | (with_reducible exact Below.refl _ _) | (with_reducible assumption) | (with_reducible refine bset ?_ ?_ _) | (with_reducible refine balloc ?_ _) | (with_reducible refine Below.drew ?_) | (with_reducible refine bdrewN ?_ _) | (with_reducible refine bnext ?_ (by with_reducible assumption)) | exact Nat.le_refl _ | (simp; done) | omega | (simp; omega))))
            case measure => simp [intOf]; omega
      · have HN := Lib.hid (HSKIP.out (by rw [HIS.out]; simp [h0]))
        obtain rfl : k = 0 := by omega
        go_wp2
        go_roundw
        case rel => exact HN.out _ (by exact (by repeat (first | (with_reducible exact Below.refl _ _) | (with_reducible assumption) | (with_reducible refine bset ?_ ?_ _) | (with_reducible refine balloc ?_ _) | (with_reducible refine Below.drew ?_) | (with_reducible refine bdrewN ?_ _) | (with_reducible refine bnext ?_ (by with_reducible assumption)) | exact Nat.le_refl _ | (simp; done) | omega | (simp; omega))))
        case measure => simp [intOf]; omega
    · obtain rfl : k = W.length := by omega
      have HO := Lib.hid HJ.out.2
      rw [HALL.out] at HO ⊢
      have hnl : (tr.namesIn W d).length ≤ 1000000000 := by have := tr.kidsTo_len W d W.length; rw [HALL.out] at this; omega
      have HB := Lib.hid HJ.out.1
      have HST := Lib.hid (sort_strs HO.out hnl)
      have hl3 : (tr.namesIn W d).length = (tr.sorted (tr.namesIn W d)).length := (tr.sorted_len (tr.namesIn W d)).symm
      have HFN : Hid (∀ wx, Own wx w.heap.size 9 1 Ao (tr.namesIn W d).length co ((tr.sorted (tr.namesIn W d)).map pa.sv) → Stays wr wx (fun k => blkOf Ao = some k) → Below w.heap.size w wx) := Lib.hid (fun wx _ hs => HB.out.trans (hs.below HB.out.size (fun k hk => (HO.out.lt k hk).1)))
      have HST : Hid (Calls Tryd.prog 38 #[.slice Ao (tr.namesIn W d).length co] wr fun e w' => e = .returned (.tuple #[]) ∧ Own w' w.heap.size 9 1 Ao (tr.namesIn W d).length co ((tr.sorted (tr.namesIn W d)).map pa.sv) ∧ Stays wr w' (fun k => blkOf Ao = some k)) := Lib.hid (sort_Strings HST.out)
      clear HJ hl3
      go_wp2_with (first
        | (go_at_call 38; ((with_reducible refine HST.out.mono ?_); rintro e w5 ⟨rfl, ho5, hs5⟩; have HO5 := Lib.hid ho5; have HS5 := Lib.hid hs5; clear ho5 hs5))
        | fail)
      go_ret
      exact ⟨Ao, co, rfl, HO5.out, HFN.out _ HO5.out HS5.out⟩
end Go.Proofs.YtlcjdlnhniemcaaDoor
end
section
namespace Go.Proofs.YtlcjdlnhniemcaaDoor
open Go.RowKit
set_option linter.unusedSimpArgs false
set_option linter.unusedVariables false

theorem tr.Path.nil {W : List tr.Item} {i : Nat} (h : tr.Path W i []) : i = 0 := by
  generalize e : ([] : List (List UInt8)) = l at h
  cases h with
  | root => rfl
  | step _ _ _ _ => simp at e
theorem tr.Path.zero {W : List tr.Item} {l : List (List UInt8)} (h : tr.Path W 0 l) : l = [] := by
  cases h with
  | root => rfl
  | step h _ _ _ => omega
theorem tr.Path.up {W : List tr.Item} {i : Nat} {l : List (List UInt8)} (h : tr.Path W i l) (h0 : 0 < i) : ∃ (d : Nat) (l0 : List (List UInt8)), tr.Live W i ∧ (tr.it W i).par = d ∧ tr.Path W d l0 ∧ l = l0 ++ [(tr.it W i).name] := by
  cases h with
  | root => omega
  | step h1 h2 h3 h4 => exact ⟨_, _, h2, h3, h4, rfl⟩
set_option maxRecDepth 100000 in
set_option maxHeartbeats 2000000 in
theorem ref_names {B Wb M : Nat} {W : List tr.Item} {g c : Nat} {ia : List ItA} (n : Nat) (l : List (List UInt8)) (w : World) (h : WdAt w B Wb M W g c ia) (hp : tr.Path W n l) (hM : M ≤ 1000000) (hn : n < W.length) (hl : l.length ≤ 1000000) :
    Calls Tryd.prog 37 #[.pointer (some ⟨Wb, 0, none⟩), .int .i64 (n : Int)] w fun e w' => ∃ A d, e = .returned (.slice A l.length d) ∧ Own w' w.heap.size 9 1 A l.length d (l.map pa.sv) ∧ Below w.heap.size w w' := by
  have H := Lib.hid h
  have hc0 := h.row
  have hWl := h.blk.lt
  have hfew := h.few
  have HP := Lib.hid hp
  clear h hp
  go_enter Tryd.func37, Tryd.ntmps37
  go_wp2
  go_loopw [1, 5] (fun s1 s5 wr => ∃ (i : Nat) (l1 l2 : List (List UInt8)) (Ao : Option Addr) (co : Nat), s1 = .int .i64 (i : Int) ∧ s5 = .slice Ao l2.length co ∧ i < W.length ∧ l1.length + l2.length ≤ 1000000 ∧ Hid (l = l1 ++ l2 ∧ tr.Path W i l1 ∧ Below w.heap.size w wr ∧ Own wr w.heap.size 9 1 Ao l2.length co (l2.map pa.sv))) (fun _ s5 _ => l.length - (match s5 with | .slice _ n _ => n | _ => 0))
  case atStart => exact ⟨n, l, [], none, 0, rfl, rfl, hn, by simpa using hl, Lib.hid ⟨by simp, HP.out, bself _, Own.nil _ _ _ _⟩⟩
  case round =>
    obtain ⟨i, l1, l2, Ao, co, rfl, rfl, hi, hll, HJ⟩ := hrel
    rename World => wr
    by_cases h0 : 0 < i
    · have h0' : (0 : Int) < (i : Int) := by omega
      obtain ⟨d, l0, d1, d2, d3, rfl⟩ := HJ.out.2.1.up h0
      have hr0 := ((H.out.next HJ.out.2.2.1).row)
      obtain ⟨A, dd, _, q0, q1, q2, q3, q4, q5, _⟩ := (H.out.next HJ.out.2.2.1).at hi
      have hgl := ((H.out.next HJ.out.2.2.1).lt (.inr rfl)).2
      have hi' : (i : Int) < (W.length : Int) := by omega
      have hdlt : d < W.length := by
        obtain ⟨d', e1, e2, _⟩ := H.out.inv.par i h0 d1
        rw [d2] at e1
        rw [Int.ofNat.inj e1]
        exact e2.lt
      rw [d2] at q1
      have HB := Lib.hid HJ.out.2.2.1
      have HO := Lib.hid HJ.out.2.2.2
      have HEQ : Hid (l = l0 ++ ((tr.it W i).name :: l2)) := Lib.hid (by rw [HJ.out.1]; simp)
      have HLL : Hid (l.length = l0.length + (1 + l2.length)) := Lib.hid (by rw [HEQ.out, List.length_append, List.length_cons]; omega)
      have HPD := Lib.hid d3
      have HCL : Hid (∀ wx, Below wr.heap.size wr wx → Cells wx Ao (l2.map pa.sv)) := Lib.hid (fun wx hb => (HJ.out.2.2.2.next hb).cells)
      have HLN : Hid ((l2.map pa.sv).length = l2.length * 1) := Lib.hid (by rw [List.length_map, Nat.mul_one])
      rw [List.length_append, List.length_singleton] at hll
      have hws : w.heap.size ≤ wr.heap.size := HJ.out.2.2.1.size
      clear HJ d1 d2 d3
      generalize (tr.it W i).name = nm at *
      have HBX : Hid (∀ wx, Grew (wr.alloc (.cells #[.string (strOf nm)] 9)) wx (some ⟨wr.heap.size, 0, none⟩) (some ⟨wr.heap.size, 0, none⟩) → True) := Lib.hid (fun _ _ => trivial)
      go_wp2_with (first
        | (at_builtin; refine wp_app _ rfl _ _ _ rfl elemStr w.heap.size (some ⟨wr.heap.size, 0, none⟩) 1 1 [.string (strOf nm)] rfl (Own.lit wr _ _ 1 1 _ hws rfl (by decide)) Ao l2.length co (l2.map pa.sv) rfl HLN.out (HCL.out _ (balloc (bself wr) _)) (pa.one l2) (by omega) (by unfold maxLen; omega) (by simp only [World.size_alloc]; omega) ?_; intro A6 c6 w6 hO6 hg6; have HO6 := Lib.hid hO6; have HB6 : Hid (Below w.heap.size w w6) := Lib.hid ((balloc HB.out _).trans (hg6.below (by simp only [World.size_alloc]; omega) (fun j hj => by cases hj; exact hws))); have HB7 : Hid (Below wr.heap.size wr w6) := Lib.hid ((balloc (bself wr) _).trans (hg6.below (by simp only [World.size_alloc]; omega) (fun j hj => by cases hj; exact Nat.le_refl _))); have r6 := (HB7.out.cell (p := ⟨Wb, 0, none⟩) (Nat.lt_of_lt_of_le hWl HB.out.size)).trans hr0; have u6 := (HB7.out.cell (p := ⟨g, i * 6 + 1, none⟩) hgl).trans q1; clear hO6 hg6)
        | fail)
      go_roundw
      case rel =>
        have e1 : 1 + l2.length = (nm :: l2).length := by rw [List.length_cons]; omega
        exact ⟨d, l0, nm :: l2, A6, c6, rfl, by rw [← e1], hdlt, by rw [List.length_cons]; omega, Lib.hid ⟨HEQ.out, HPD.out, HB6.out, by rw [← e1]; exact HO6.out⟩⟩
      case measure =>
        rw [HLL.out]
        simp
        try omega
    · obtain rfl : i = 0 := by omega
      have hl1 := HJ.out.2.1.zero
      subst hl1
      have HE : Hid (l = l2) := Lib.hid (by rw [HJ.out.1]; rfl)
      have HB := Lib.hid HJ.out.2.2.1
      have HO := Lib.hid HJ.out.2.2.2
      clear HJ
      go_wp2
      go_ret
      rw [HE.out]
      exact ⟨Ao, co, rfl, HO.out, HB.out⟩
end Go.Proofs.YtlcjdlnhniemcaaDoor
end
