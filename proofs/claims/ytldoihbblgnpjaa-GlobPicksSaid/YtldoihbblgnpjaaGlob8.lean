/- Package glob: the reference's table. No condition. -/
import Derived.Test.YtldoihbblgnpjaaGlob7
import Derived.Test.YtldoihbblgnpjaaMake
import Derived.Deep.RegionLaw
import Derived.Test.YtldoihbblgnpjaaTail
namespace Go.Proofs.Ytldoihbblgnpjaa
open Go.RowKit
set_option linter.unusedSimpArgs false

theorem gl.ritem_at {w : World} {S : Nat → Prop} {l : List gl.Item} {A : Option Addr} {c k : Nat} (h : SlRep gl.rrep w S l A c) (hk : k < l.length) :
    ∃ b o A' c', A = some ⟨b, o, none⟩ ∧ S b ∧ w.cell? ⟨b, o + k * 4, none⟩ = some (.int .u8 ((gl.kind (l.getD k .run)).toNat : Int)) ∧ w.cell? ⟨b, o + k * 4 + 1, none⟩ = some (.int .u8 ((gl.lone (l.getD k .run)).toNat : Int)) ∧
      w.cell? ⟨b, o + k * 4 + 2, none⟩ = some (.slice A' (gl.rs (l.getD k .run)).length c') ∧ w.cell? ⟨b, o + k * 4 + 3, none⟩ = some (.bool (gl.neg (l.getD k .run))) ∧ SlRep gl.prep w S (gl.rs (l.getD k .run)) A' c' := by
  rcases h.2.2 with rfl | ⟨b, o, rfl, hb, hr⟩
  · simp at hk
  · obtain ⟨cs, hcs, hc⟩ := hr k (l.getD k .run) (by rw [List.getD_eq_getElem?_getD, List.getElem?_eq_getElem hk]; rfl)
    obtain ⟨A', c', rfl, h'⟩ := gl.rrep_iff.1 hcs
    exact ⟨b, o, A', c', rfl, hb, hc 0 _ rfl, hc 1 _ rfl, hc 2 _ rfl, hc 3 _ rfl, h'⟩
def gl.row (n : Nat) (f : Nat → Bool) : List Value := (List.range n).map (fun k => .bool (f k))
theorem gl.row_at {n : Nat} (f : Nat → Bool) {k : Nat} (hk : k < n) : (gl.row n f)[k]? = some (.bool (f k)) := by simp [gl.row, hk]
theorem gl.row_set {n : Nat} (f : Nat → Bool) {k : Nat} (v : Bool) : (gl.row n f).set k (.bool v) = gl.row n (fun j => if j = k then v else f j) := by
  apply List.ext_getElem?
  intro j
  rw [List.getElem?_set]
  unfold gl.row
  by_cases e : k = j
  · subst e
    by_cases h : k < n <;> simp [h]
  · rw [if_neg e]
    simp only [List.getElem?_map]
    rcases Nat.lt_or_ge j n with h | h
    · rw [List.getElem?_range h]
      simp only [Option.map_some]
      rw [if_neg (fun e2 => e e2.symm)]
    · rw [List.getElem?_eq_none (by simpa using h)]
      rfl
theorem gl.row_congr {n : Nat} {f g : Nat → Bool} (h : ∀ k, k < n → f k = g k) : gl.row n f = gl.row n g := List.map_congr_left fun k hk => by rw [h k (by simpa using hk)]
theorem gl.row_new (n : Nat) : List.replicate n (Value.bool false) = gl.row n (fun _ => false) := by
  apply List.ext_getElem?
  intro j
  unfold gl.row
  rw [List.getElem?_replicate, List.getElem?_map]
  by_cases h : j < n
  · rw [if_pos h, List.getElem?_range h]; rfl
  · rw [if_neg h, List.getElem?_eq_none (by simpa using Nat.le_of_not_lt h)]; rfl
theorem gl.row_len (n : Nat) (f : Nat → Bool) : (gl.row n f).length = n := by simp [gl.row]
/-- a row of bools in a block -/
structure gl.RowAt (w : World) (g n : Nat) (f : Nat → Bool) : Prop where
  at_ : w.rangeAt g 0 (gl.row n f)
  there : w.there g 0 n
theorem gl.RowAt.new (w : World) (n : Nat) (t : TypeId) : gl.RowAt (w.alloc (.cells (List.replicate n (Value.bool false)).toArray t)) w.heap.size n (fun _ => false) := by
  rw [gl.row_new]
  refine ⟨rangeAt_new _ _ _, ?_⟩
  have h := there_new w (gl.row n (fun _ => false)) t
  rwa [gl.row_len] at h
theorem gl.RowAt.block {w w' : World} {g n : Nat} {f : Nat → Bool} (h : gl.RowAt w g n f) (hb : w'.heap[g]? = w.heap[g]?) : gl.RowAt w' g n f := ⟨rangeAt_block h.at_ hb, there_block h.there hb⟩
theorem gl.RowAt.cell {w : World} {g n : Nat} {f : Nat → Bool} (h : gl.RowAt w g n f) {k : Nat} (hk : k < n) : w.cell? ⟨g, k, none⟩ = some (.bool (f k)) ∧ w.frozen? ⟨g, k, none⟩ = false := by
  have h1 := h.at_ k _ (gl.row_at f hk)
  have h2 := (h.there k hk).2
  rw [Nat.zero_add] at h1 h2
  exact ⟨h1, h2⟩
theorem gl.RowAt.put {w : World} {g n : Nat} {f : Nat → Bool} (h : gl.RowAt w g n f) (k : Nat) (v : Bool) : gl.RowAt (w.setCell ⟨g, k, none⟩ (.bool v)) g n (fun j => if j = k then v else f j) := by
  refine ⟨?_, there_set h.there _ _⟩
  have := rangeAt_set h.at_ k (.bool v)
  rwa [gl.row_set] at this
theorem gl.RowAt.as {w : World} {g n : Nat} {f f' : Nat → Bool} (h : gl.RowAt w g n f) (hf : ∀ k, k < n → f' k = f k) : gl.RowAt w g n f' := ⟨by rw [gl.row_congr hf]; exact h.at_, h.there⟩
theorem gl.RowAt.lt {w : World} {g n : Nat} {f : Nat → Bool} (h : gl.RowAt w g n f) (hn : 0 < n) : g < w.heap.size := World.block_lt_of_cell? w _ (h.cell hn).1
/-- between the rounds of one item: only the block g2 and new ones have turned -/
structure gl.Inner (w w2 w3 : World) (g2 : Nat) : Prop where
  keep : ∀ b, b < w2.heap.size → b ≠ g2 → w3.heap[b]? = w2.heap[b]?
  size : w2.heap.size ≤ w3.heap.size
  bel : Below w.heap.size w w3
theorem gl.Inner.put {w w2 w3 w4 : World} {g2 : Nat} (h : gl.Inner w w2 w3 g2) (hb : Below w3.heap.size w3 w4) (hg : w.heap.size ≤ g2) (k : Nat) (v : Value) : gl.Inner w w2 (w4.setCell ⟨g2, k, none⟩ v) g2 := by
  have hs := h.size
  refine ⟨fun b hb2 hne => ?_, ?_, (bnext h.bel hb).setCell (p := ⟨g2, k, none⟩) hg v⟩
  · rw [Below.heap_setCell w4 ⟨g2, k, none⟩ v b hne, hb.block b (by omega)]
    exact h.keep b hb2 hne
  · have := hb.size
    simp only [World.size_setCell]
    omega

theorem gl.both_drew {w w2 w3 : World} {g n : Nat} {f : Nat → Bool} (h : gl.RowAt w3 g n f ∧ gl.Inner w w2 w3 g) : gl.RowAt w3.drew g n f ∧ gl.Inner w w2 w3.drew g := ⟨h.1.block rfl, h.2.keep, h.2.size, h.2.bel.drew⟩

set_option maxRecDepth 100000 in
set_option maxHeartbeats 4000000 in
theorem ref_globOf (l : List gl.Item) (A : Option Addr) (c : Nat) (n : List UInt8) (w : World) (hl : SlRep gl.rrep w (· < w.heap.size) l A c) (h40 : l.length ≤ 40) (hn : n.length ≤ 1000000) :
    Calls Try.prog 19 #[.slice A l.length c, .string (strOf n)] w fun e w' => e = .returned (.bool (gl.matches_ l n)) ∧ Below w.heap.size w w' := by
  have HL := Lib.hid hl
  clear hl
  have hmk := make_row (P := Try.prog) (i := Try.t4) (z := .bool false) Try.underlying57 (by kernel_rfl) (by kernel_rfl) rfl rfl (n.length + 1) ((n.length : Int) + 1) (by omega) (by show 1 * _ ≤ _; omega) (by omega)
  go_enter Try.func19, Try.ntmps19
  go_upto_region 2 with fail
  generalize hw1 : w.alloc _ = w1
  have hw1' : w1 = w.alloc (.cells (List.replicate (n.length + 1) (Value.bool false)).toArray 4) := by rw [← hw1]; simp
  clear hw1
  have hr1 : gl.RowAt w1 w.heap.size (n.length + 1) (fun _ => false) := by rw [hw1']; exact gl.RowAt.new _ _ _
  have hb1 : Below w.heap.size w w1 := by rw [hw1']; exact (by repeat (first | (with_reducible exact Below.refl _ _) | (with_reducible assumption) | (with_reducible refine bset ?_ ?_ _) | (with_reducible refine balloc ?_ _) | (with_reducible refine Below.drew ?_) | (with_reducible refine bdrewN ?_ _) | (with_reducible refine bnext ?_ (by with_reducible assumption)) | exact Nat.le_refl _ | (simp; done) | omega | (simp; omega)))
  have hz1 : w1.heap.size = w.heap.size + 1 := by rw [hw1']; simp
  obtain ⟨c1, c2⟩ := hr1.cell (k := 0) (by omega)
  have HR1 : Hid (gl.RowAt (w1.setCell ⟨w.heap.size, 0, none⟩ (.bool true)) w.heap.size (n.length + 1) (gl.D l n 0)) := Lib.hid ((hr1.put 0 true).as (fun k _ => by
    show (k == 0) = _
    by_cases e : k = 0
    · subst e; rfl
    · rw [if_neg e]; simpa using e))
  have HB1 : Hid (Below w.heap.size w (w1.setCell ⟨w.heap.size, 0, none⟩ (.bool true))) := Lib.hid (hb1.setCell (p := ⟨w.heap.size, 0, none⟩) (Nat.le_refl _) _)
  clear hw1' hr1 hb1
  go_upto_region 3 with fail
  clear c1 c2
  generalize w1.setCell ⟨w.heap.size, 0, none⟩ (.bool true) = w2 at *
  go_wp2_with fail
  go_loopw [5, 7, 8, 9, 18] (fun s5 _ _ _ s18 wr => ∃ (j g : Nat), s5 = .slice (some ⟨g, 0, none⟩) (n.length + 1) (n.length + 1) ∧ s18 = .int .i64 j ∧ j ≤ l.length ∧ w.heap.size ≤ g ∧ Hid (gl.RowAt wr g (n.length + 1) (gl.D l n j) ∧ Below w.heap.size w wr)) (fun _ _ _ _ s18 _ => l.length - (intOf s18).toNat)
  case atStart => exact ⟨0, w.heap.size, rfl, rfl, by omega, Nat.le_refl _, Lib.hid ⟨HR1.out, HB1.out⟩⟩
  case round =>
    obtain ⟨j, g, rfl, rfl, hj, hg, HW⟩ := hrel
    rename World => wr
    have hgl := HW.out.1.lt (by omega)
    by_cases hlt : j < l.length
    · obtain ⟨b, o, A', c', rfl, hb, q0, q1, q2, q3, hs⟩ := gl.ritem_at (HL.out.next HW.out.2) hlt
      have hlt' : (j : Int) < (l.length : Int) := by omega
      have HS := Lib.hid hs
      have HDJ : Hid (gl.D l n (j + 1) = gl.Dr (l.getD j .run) n (gl.D l n j)) := Lib.hid rfl
      clear hs
      obtain ⟨it, hit⟩ : ∃ it, it = l.getD j .run := ⟨_, rfl⟩
      rw [← hit] at q0 q1 q2 q3 HS HDJ
      clear hit
      go_upto_region 7 with fail
      generalize hw4 : World.alloc (World.alloc wr _) _ = w4
      have hw4' : w4 = (wr.alloc (.cells #[.int .u8 (gl.kind it).toNat, .int .u8 (gl.lone it).toNat, .slice A' (gl.rs it).length c', .bool (gl.neg it)] 54)).alloc (.cells (List.replicate (n.length + 1) (Value.bool false)).toArray 4) := by rw [← hw4]; simp
      clear hw4
      have hb4 : Below wr.heap.size wr w4 := by rw [hw4']; exact (by repeat (first | (with_reducible exact Below.refl _ _) | (with_reducible assumption) | (with_reducible refine bset ?_ ?_ _) | (with_reducible refine balloc ?_ _) | (with_reducible refine Below.drew ?_) | (with_reducible refine bdrewN ?_ _) | (with_reducible refine bnext ?_ (by with_reducible assumption)) | exact Nat.le_refl _ | (simp; done) | omega | (simp; omega)))
      have hz4 : w4.heap.size = wr.heap.size + 2 := by rw [hw4']; simp
      have i0 : w4.cell? ⟨wr.heap.size, 0, none⟩ = some (.int .u8 (gl.kind it).toNat) := by rw [hw4']; simp [go_sem]
      have i1 : w4.cell? ⟨wr.heap.size, 1, none⟩ = some (.int .u8 (gl.lone it).toNat) := by rw [hw4']; simp [go_sem]
      have i2 : w4.cell? ⟨wr.heap.size, 2, none⟩ = some (.slice A' (gl.rs it).length c') := by rw [hw4']; simp [go_sem]
      have i3 : w4.cell? ⟨wr.heap.size, 3, none⟩ = some (.bool (gl.neg it)) := by rw [hw4']; simp [go_sem]
      have hrow : gl.RowAt w4 (wr.heap.size + 1) (n.length + 1) (fun _ => false) := by
        rw [hw4']
        have h := gl.RowAt.new (wr.alloc (.cells #[.int .u8 (gl.kind it).toNat, .int .u8 (gl.lone it).toNat, .slice A' (gl.rs it).length c', .bool (gl.neg it)] 54)) (n.length + 1) 4
        rwa [World.size_alloc] at h
      have HROW := Lib.hid hrow
      have HPREV := Lib.hid (HW.out.1.block (hb4.block g hgl))
      have HB4 : Hid (Below w.heap.size w w4) := Lib.hid (bnext HW.out.2 hb4)
      have HII := Lib.hid (And.intro i0 (And.intro i1 (And.intro i2 i3)))
      have HS4 := Lib.hid (HS.out.next hb4)
      have hgw : w.heap.size ≤ wr.heap.size + 1 := by have := HW.out.2.size; omega
      have HGW := Lib.hid hgw
      have HB40 : Hid (Below wr.heap.size wr w4) := Lib.hid hb4
      clear hw4' hrow i0 i1 i2 i3 hb4 q0 q1 q2 q3 hgw
      go_wp2_with fail
      go_loopw [9] (fun s9 w5 => ∃ k : Nat, s9 = .int .i64 k ∧ k ≤ n.length + 1 ∧ Hid (gl.RowAt w5 (wr.heap.size + 1) (n.length + 1) (fun i => if i < k then gl.Dr it n (gl.D l n j) i else false) ∧ gl.Inner w w4 w5 (wr.heap.size + 1))) (fun s9 _ => n.length + 1 - (intOf s9).toNat)
      case atStart => exact ⟨0, rfl, by omega, Lib.hid ⟨HROW.out.as (fun _ _ => by simp), ⟨fun _ _ _ => rfl, Nat.le_refl _, HB4.out⟩⟩⟩
      case round =>
        obtain ⟨k, rfl, hk, HK⟩ := hrel
        rename World => w5
        by_cases hkn : k < n.length + 1
        · have HN : Hid (∀ w6, Below w5.heap.size w5 w6 → ∀ v, v = gl.Dr it n (gl.D l n j) k → gl.RowAt (w6.setCell ⟨wr.heap.size + 1, k, none⟩ (.bool v)) (wr.heap.size + 1) (n.length + 1) (fun i => if i < k + 1 then gl.Dr it n (gl.D l n j) i else false) ∧ gl.Inner w w4 (w6.setCell ⟨wr.heap.size + 1, k, none⟩ (.bool v)) (wr.heap.size + 1)) := Lib.hid (fun w6 hb v hv => by
            have h6 := HK.out.1.block (hb.block _ (HK.out.1.lt (by omega)))
            refine ⟨(h6.put k v).as (fun i _ => ?_), HK.out.2.put hb HGW.out _ _⟩
            by_cases e : i = k
            · subst e; rw [if_pos rfl, if_pos (by omega), hv]
            · rw [if_neg e]
              by_cases e2 : i < k
              · rw [if_pos e2, if_pos (by omega)]
              · rw [if_neg e2, if_neg (by omega)])
          have hsz := HK.out.2.size
          have kp := HK.out.2.keep wr.heap.size (by omega) (by omega)
          have kg := HK.out.2.keep g (by omega) (by omega)
          have i0 := (World.cell?_of_block (a := ⟨wr.heap.size, 0, none⟩) kp).trans HII.out.1
          have i1 := (World.cell?_of_block (a := ⟨wr.heap.size, 1, none⟩) kp).trans HII.out.2.1
          have i2 := (World.cell?_of_block (a := ⟨wr.heap.size, 2, none⟩) kp).trans HII.out.2.2.1
          have i3 := (World.cell?_of_block (a := ⟨wr.heap.size, 3, none⟩) kp).trans HII.out.2.2.2
          have HPV := Lib.hid (HPREV.out.block kg)
          obtain ⟨n1, n2⟩ := HK.out.1.cell hkn
          have hkl : (k : Int) ≤ (n.length : Int) := by omega
          have hkl' : k ≤ n.length := by omega
          have hSx : SlRep gl.prep w5 (· < wr.heap.size) (gl.rs it) A' c' := HS.out.keep (fun b hb2 => ⟨hb2, (HK.out.2.keep b (by omega) (by omega)).trans (HB40.out.block b hb2)⟩)
          have HS5 := Lib.hid (hSx.keep (S' := (· < w5.heap.size)) (fun b hb2 => ⟨by omega, rfl⟩))
          clear kp kg hSx
          cases hir : it.isRun with
          | true =>
            obtain rfl : it = .run := by cases it <;> first | rfl | cases hir
            change w5.cell? ⟨wr.heap.size, 0, none⟩ = some (.int .u8 42) at i0
            obtain ⟨p1, _⟩ := HPV.out.cell hkn
            cases k with
            | zero =>
              obtain ⟨pk, hpk⟩ : ∃ pk, pk = gl.D l n j 0 := ⟨_, rfl⟩
              have HV : Hid (gl.Dr .run n (gl.D l n j) 0 = pk) := Lib.hid (by rw [hpk]; rfl)
              rw [← hpk] at p1
              clear hpk
              cases pk
              all_goals
                go_wp2
                go_roundw
                case rel => exact ⟨1, by go_num, by omega, Lib.hid (HN.out _ (by first | exact Below.refl _ _ | exact (Below.refl _ _).drew | exact bdrewN (Below.refl _ _) _ | exact (by repeat (first | (with_reducible exact Below.refl _ _) | (with_reducible assumption) | (with_reducible refine bset ?_ ?_ _) | (with_reducible refine balloc ?_ _) | (with_reducible refine Below.drew ?_) | (with_reducible refine bdrewN ?_ _) | (with_reducible refine bnext ?_ (by with_reducible assumption)) | exact Nat.le_refl _ | (simp; done) | omega | (simp; omega)))) _ HV.out.symm)⟩
                case measure => first | (simp [intOf]; done) | (simp [intOf]; omega)
            | succ k' =>
              obtain ⟨n3, _⟩ := HK.out.1.cell (k := k') (by omega)
              rw [if_pos (by omega)] at n3
              obtain ⟨pk, hpk⟩ : ∃ pk, pk = gl.D l n j (k' + 1) := ⟨_, rfl⟩
              obtain ⟨nk, hnk⟩ : ∃ nk, nk = gl.Dr .run n (gl.D l n j) k' := ⟨_, rfl⟩
              have HV : Hid (gl.Dr .run n (gl.D l n j) (k' + 1) = (pk || nk)) := Lib.hid (by rw [hpk, hnk]; rfl)
              rw [← hpk] at p1
              rw [← hnk] at n3
              clear hpk hnk
              cases pk <;> cases nk
              all_goals
                go_wp2
                go_roundw
                case rel => exact ⟨k' + 1 + 1, by go_num, by omega, Lib.hid (HN.out _ (by first | exact Below.refl _ _ | exact (Below.refl _ _).drew | exact bdrewN (Below.refl _ _) _ | exact (by repeat (first | (with_reducible exact Below.refl _ _) | (with_reducible assumption) | (with_reducible refine bset ?_ ?_ _) | (with_reducible refine balloc ?_ _) | (with_reducible refine Below.drew ?_) | (with_reducible refine bdrewN ?_ _) | (with_reducible refine bnext ?_ (by with_reducible assumption)) | exact Nat.le_refl _ | (simp; done) | omega | (simp; omega)))) _ HV.out.symm)⟩
                case measure => first | (simp [intOf]; done) | (simp [intOf]; omega)
          | false =>
            have hk42 : (((gl.kind it).toNat : Int) == 42) = false := by cases it <;> first | rfl | cases hir
            have HIR := Lib.hid hir
            clear hir
            cases k with
            | zero =>
              have HV : Hid (gl.Dr it n (gl.D l n j) 0 = false) := Lib.hid (by show (it.isRun && _) = false; rw [HIR.out]; rfl)
              try rw [show ((0 : Nat) : Int) = 0 from rfl]
              go_upto_region 12 with fail
              refine wp_region_tail [20] (fun wx => ∀ a : Addr, a.block < w5.heap.size → wx.cell? a = w5.cell? a) (by kernel_rfl) (fun _ _ => rfl) ?_
              intro hHeld
              refine wpAnyT_pure (i := 0) (v := ?_) rfl (by kernel_rfl) (by kernel_rfl) (by kernel_rfl) (fun _ _ _ h => h) (.inl ⟨by kernel_rfl, ?_⟩) (fun _ => hHeld) ?_ (by decide)
              rotate_left
              · intro w9; go_simp; try with_reducible rfl
              try simp only [Act.put, List.setIfInBounds_toArray, List.set_cons_zero, List.set_cons_succ]
              refine wpAnyT_pure (i := 1) (v := ?_) rfl (by kernel_rfl) (by kernel_rfl) (by kernel_rfl) (fun _ _ _ h => h) (.inl ⟨by kernel_rfl, ?_⟩) (fun _ => hHeld) ?_ (by decide)
              rotate_left
              · intro w9; go_simp; try with_reducible rfl
              try simp only [Act.put, List.setIfInBounds_toArray, List.set_cons_zero, List.set_cons_succ]
              refine wpAnyT_pure (i := 2) (v := ?_) rfl (by kernel_rfl) (by kernel_rfl) (by kernel_rfl) (fun _ _ _ h => h) (.inl ⟨by kernel_rfl, ?_⟩) (fun _ => hHeld) ?_ (by decide)
              rotate_left
              · intro w9; go_simp; try with_reducible rfl
              try simp only [Act.put, List.setIfInBounds_toArray, List.set_cons_zero, List.set_cons_succ]
              refine wpAnyT_pure (i := 3) (v := ?_) rfl (by kernel_rfl) (by kernel_rfl) (by kernel_rfl) (fun _ _ _ h => h) (.inl ⟨by kernel_rfl, ?_⟩) (fun _ => hHeld) ?_ (by decide)
              rotate_left
              · intro w9; go_simp; try with_reducible rfl
              try simp only [Act.put, List.setIfInBounds_toArray, List.set_cons_zero, List.set_cons_succ]
              refine wpAnyT_pure (i := 4) (v := ?_) rfl (by kernel_rfl) (by kernel_rfl) (by kernel_rfl) (fun _ _ _ h => h) (.inl ⟨by kernel_rfl, ?_⟩) (fun _ => hHeld) ?_ (by decide)
              rotate_left
              · intro w9; go_simp; try with_reducible rfl
              try simp only [Act.put, List.setIfInBounds_toArray, List.set_cons_zero, List.set_cons_succ]
              refine wpAnyT_pure (i := 5) (v := undef) rfl (by kernel_rfl) (by kernel_rfl) (by kernel_rfl) (fun _ _ _ h => h) (.inr ⟨by kernel_rfl, rfl⟩) (fun _ => hHeld) ?_ (by decide)
              try simp only [Act.put, List.setIfInBounds_toArray, List.set_cons_zero, List.set_cons_succ]
              refine wpAnyT_pure (i := 6) (v := undef) rfl (by kernel_rfl) (by kernel_rfl) (by kernel_rfl) (fun _ _ _ h => h) (.inr ⟨by kernel_rfl, rfl⟩) (fun _ => hHeld) ?_ (by decide)
              try simp only [Act.put, List.setIfInBounds_toArray, List.set_cons_zero, List.set_cons_succ]
              refine wpAnyT_pure (i := 7) (v := undef) rfl (by kernel_rfl) (by kernel_rfl) (by kernel_rfl) (fun _ _ _ h => h) (.inr ⟨by kernel_rfl, rfl⟩) (fun _ => hHeld) ?_ (by decide)
              try simp only [Act.put, List.setIfInBounds_toArray, List.set_cons_zero, List.set_cons_succ]
              refine wpAnyT_pure (i := 8) (v := undef) rfl (by kernel_rfl) (by kernel_rfl) (by kernel_rfl) (fun _ _ _ h => h) (.inr ⟨by kernel_rfl, rfl⟩) (fun _ => hHeld) ?_ (by decide)
              try simp only [Act.put, List.setIfInBounds_toArray, List.set_cons_zero, List.set_cons_succ]
              refine wpAnyT_pure (i := 9) (v := undef) rfl (by kernel_rfl) (by kernel_rfl) (by kernel_rfl) (fun _ _ _ h => h) (.inr ⟨by kernel_rfl, rfl⟩) (fun _ => hHeld) ?_ (by decide)
              try simp only [Act.put, List.setIfInBounds_toArray, List.set_cons_zero, List.set_cons_succ]
              refine wpAnyT_pure (i := 10) (v := ?_) rfl (by kernel_rfl) (by kernel_rfl) (by kernel_rfl) (fun _ _ _ h => h) (.inl ⟨by kernel_rfl, ?_⟩) (fun _ => hHeld) ?_ (by decide)
              rotate_left
              · intro w9; go_simp; try with_reducible rfl
              try simp only [Act.put, List.setIfInBounds_toArray, List.set_cons_zero, List.set_cons_succ]
              refine wpAnyT_pure (i := 11) (v := ?_) rfl (by kernel_rfl) (by kernel_rfl) (by kernel_rfl) (fun _ _ _ h => h) (.inl ⟨by kernel_rfl, ?_⟩) (fun _ => hHeld) ?_ (by decide)
              rotate_left
              · intro w9; go_simp; try with_reducible rfl
              try simp only [Act.put, List.setIfInBounds_toArray, List.set_cons_zero, List.set_cons_succ]
              refine wpAnyT_pure (i := 12) (v := undef) rfl (by kernel_rfl) (by kernel_rfl) (by kernel_rfl) (fun _ _ _ h => h) (.inr ⟨by kernel_rfl, rfl⟩) (fun _ => hHeld) ?_ (by decide)
              try simp only [Act.put, List.setIfInBounds_toArray, List.set_cons_zero, List.set_cons_succ]
              refine wpAnyT_pure (i := 13) (v := undef) rfl (by kernel_rfl) (by kernel_rfl) (by kernel_rfl) (fun _ _ _ h => h) (.inr ⟨by kernel_rfl, rfl⟩) (fun _ => hHeld) ?_ (by decide)
              try simp only [Act.put, List.setIfInBounds_toArray, List.set_cons_zero, List.set_cons_succ]
              refine wpAnyT_pure (i := 14) (v := undef) rfl (by kernel_rfl) (by kernel_rfl) (by kernel_rfl) (fun _ _ _ h => h) (.inr ⟨by kernel_rfl, rfl⟩) (fun _ => hHeld) ?_ (by decide)
              try simp only [Act.put, List.setIfInBounds_toArray, List.set_cons_zero, List.set_cons_succ]
              refine wpAnyT_pure (i := 15) (v := undef) rfl (by kernel_rfl) (by kernel_rfl) (by kernel_rfl) (fun _ _ _ h => h) (.inr ⟨by kernel_rfl, rfl⟩) (fun _ => hHeld) ?_ (by decide)
              try simp only [Act.put, List.setIfInBounds_toArray, List.set_cons_zero, List.set_cons_succ]
              refine wpAnyT_pure (i := 16) (v := undef) rfl (by kernel_rfl) (by kernel_rfl) (by kernel_rfl) (fun _ _ _ h => h) (.inr ⟨by kernel_rfl, rfl⟩) (fun _ => hHeld) ?_ (by decide)
              try simp only [Act.put, List.setIfInBounds_toArray, List.set_cons_zero, List.set_cons_succ]
              refine wpAnyT_pure (i := 17) (v := undef) rfl (by kernel_rfl) (by kernel_rfl) (by kernel_rfl) (fun _ _ _ h => h) (.inr ⟨by kernel_rfl, rfl⟩) (fun _ => hHeld) ?_ (by decide)
              try simp only [Act.put, List.setIfInBounds_toArray, List.set_cons_zero, List.set_cons_succ]
              refine wpAnyT_pure (i := 18) (v := ?_) rfl (by kernel_rfl) (by kernel_rfl) (by kernel_rfl) (fun _ _ _ h => h) (.inl ⟨by kernel_rfl, ?_⟩) (fun _ => hHeld) ?_ (by decide)
              rotate_left
              · intro w9; go_simp; try with_reducible rfl
              try simp only [Act.put, List.setIfInBounds_toArray, List.set_cons_zero, List.set_cons_succ]
              refine wpAnyT_pure (i := 19) (v := ?_) rfl (by kernel_rfl) (by kernel_rfl) (by kernel_rfl) (fun _ _ _ h => h) (.inl ⟨by kernel_rfl, ?_⟩) (fun _ => hHeld) ?_ (by decide)
              rotate_left
              · intro w9; go_simp; try with_reducible rfl
              try simp only [Act.put, List.setIfInBounds_toArray, List.set_cons_zero, List.set_cons_succ]
              refine wpAnyT_next (i := 20) (by kernel_rfl) rfl ?_
              intro K hK
              go_simp
              refine hK.out _ _ (fun h => absurd ((by kernel_rfl : false = _).trans h) Bool.false_ne_true) ?_
              clear hK K
              refine wpAnyT_done (by kernel_rfl) ?_ _
              go_wp2
              go_roundw
              case rel => exact ⟨1, by go_num, by omega, Lib.hid (gl.both_drew (HN.out _ (Below.refl _ _) _ HV.out.symm))⟩
              case measure => first | (simp [intOf]; done) | (simp [intOf]; omega)
            | succ k' =>
              obtain ⟨p3, _⟩ := HPV.out.cell (k := k') (by omega)
              obtain ⟨pk, hpk⟩ : ∃ pk, pk = gl.D l n j k' := ⟨_, rfl⟩
              have HV : Hid (gl.Dr it n (gl.D l n j) (k' + 1) = (pk && it.takes (n.getD k' 0))) := Lib.hid (by
                show (if it.isRun = true then _ else _) = _
                rw [HIR.out, hpk]
                rfl)
              rw [← hpk] at p3
              clear hpk
              have hwk : IntKind.i64.wrap (k' : Int) = (k' : Int) := IntWalk.i64_in _ (by omega)
              have hlk : (k' : Int) < (n.length : Int) + 1 := by omega
              have h0k : 0 ≤ (k' : Int) + 1 := by omega
              have hlk' : (k' : Int) < (n.length : Int) := by omega
              cases pk with
              | false =>
                go_upto_region 12 with fail
                refine wp_region_tail [20] (fun wx => ∀ a : Addr, a.block < w5.heap.size → wx.cell? a = w5.cell? a) (by kernel_rfl) (fun _ _ => rfl) ?_
                intro hHeld
                refine wpAnyT_pure (i := 0) (v := ?_) rfl (by kernel_rfl) (by kernel_rfl) (by kernel_rfl) (fun _ _ _ h => h) (.inl ⟨by kernel_rfl, ?_⟩) (fun _ => hHeld) ?_ (by decide)
                rotate_left
                · intro w9; go_simp; try with_reducible rfl
                try simp only [Act.put, List.setIfInBounds_toArray, List.set_cons_zero, List.set_cons_succ]
                refine wpAnyT_pure (i := 1) (v := ?_) rfl (by kernel_rfl) (by kernel_rfl) (by kernel_rfl) (fun _ _ _ h => h) (.inl ⟨by kernel_rfl, ?_⟩) (fun _ => hHeld) ?_ (by decide)
                rotate_left
                · intro w9; go_simp; try with_reducible rfl
                try simp only [Act.put, List.setIfInBounds_toArray, List.set_cons_zero, List.set_cons_succ]
                refine wpAnyT_pure (i := 2) (v := ?_) rfl (by kernel_rfl) (by kernel_rfl) (by kernel_rfl) (fun _ _ _ h => h) (.inl ⟨by kernel_rfl, ?_⟩) (fun _ => hHeld) ?_ (by decide)
                rotate_left
                · intro w9; go_simp; try with_reducible rfl
                try simp only [Act.put, List.setIfInBounds_toArray, List.set_cons_zero, List.set_cons_succ]
                refine wpAnyT_pure (i := 3) (v := ?_) rfl (by kernel_rfl) (by kernel_rfl) (by kernel_rfl) (fun _ _ _ h => h) (.inl ⟨by kernel_rfl, ?_⟩) (fun _ => hHeld) ?_ (by decide)
                rotate_left
                · intro w9; go_simp; try with_reducible rfl
                try simp only [Act.put, List.setIfInBounds_toArray, List.set_cons_zero, List.set_cons_succ]
                refine wpAnyT_pure (i := 4) (v := ?_) rfl (by kernel_rfl) (by kernel_rfl) (by kernel_rfl) (fun _ _ _ h => h) (.inl ⟨by kernel_rfl, ?_⟩) (fun _ => hHeld) ?_ (by decide)
                rotate_left
                · intro w9; go_simp; try with_reducible rfl
                try simp only [Act.put, List.setIfInBounds_toArray, List.set_cons_zero, List.set_cons_succ]
                refine wpAnyT_pure (i := 5) (v := ?_) rfl (by kernel_rfl) (by kernel_rfl) (by kernel_rfl) (fun _ _ _ h => h) (.inl ⟨by kernel_rfl, ?_⟩) (fun _ => hHeld) ?_ (by decide)
                rotate_left
                · intro w9; go_simp; try with_reducible rfl
                try simp only [Act.put, List.setIfInBounds_toArray, List.set_cons_zero, List.set_cons_succ]
                refine wpAnyT_pure (i := 6) (v := ?_) rfl (by kernel_rfl) (by kernel_rfl) (by kernel_rfl) (fun _ _ _ h => h) (.inl ⟨by kernel_rfl, ?_⟩) (fun _ => hHeld) ?_ (by decide)
                rotate_left
                · intro w9; go_simp; try with_reducible rfl
                try simp only [Act.put, List.setIfInBounds_toArray, List.set_cons_zero, List.set_cons_succ]
                refine wpAnyT_pure (i := 7) (v := ?_) rfl (by kernel_rfl) (by kernel_rfl) (by kernel_rfl) (fun _ _ _ h => h) (.inl ⟨by kernel_rfl, ?_⟩) (fun _ => hHeld) ?_ (by decide)
                rotate_left
                · intro w9; go_simp; try with_reducible rfl
                try simp only [Act.put, List.setIfInBounds_toArray, List.set_cons_zero, List.set_cons_succ]
                refine wpAnyT_pure (i := 8) (v := ?_) rfl (by kernel_rfl) (by kernel_rfl) (by kernel_rfl) (fun _ _ _ h => h) (.inl ⟨by kernel_rfl, ?_⟩) (fun _ => hHeld) ?_ (by decide)
                rotate_left
                · intro w9; go_simp; try with_reducible rfl
                try simp only [Act.put, List.setIfInBounds_toArray, List.set_cons_zero, List.set_cons_succ]
                refine wpAnyT_take (i := 9) [10, 11, 18, 20] (v := ?_) rfl (by kernel_rfl) (by kernel_rfl) (by kernel_rfl) (by kernel_rfl) (fun _ _ _ h => h) (.inl ⟨by kernel_rfl, ?_⟩) hHeld ?_
                rotate_left
                · intro w9 hS9; (try dsimp only at hS9); have e9 := (hS9 ⟨g, k', none⟩ (by simp only; omega)).trans p3; clear hS9; go_simp; try with_reducible rfl
                try simp only [Act.put, List.setIfInBounds_toArray, List.set_cons_zero, List.set_cons_succ]
                refine wpAnyT_pure (i := 10) (v := ?_) rfl (by kernel_rfl) (by kernel_rfl) (by kernel_rfl) (fun _ _ _ h => h) (.inl ⟨by kernel_rfl, ?_⟩) (fun _ => hHeld) ?_ (by decide)
                rotate_left
                · intro w9; go_simp; try with_reducible rfl
                try simp only [Act.put, List.setIfInBounds_toArray, List.set_cons_zero, List.set_cons_succ]
                refine wpAnyT_pure (i := 11) (v := ?_) rfl (by kernel_rfl) (by kernel_rfl) (by kernel_rfl) (fun _ _ _ h => h) (.inl ⟨by kernel_rfl, ?_⟩) (fun _ => hHeld) ?_ (by decide)
                rotate_left
                · intro w9; go_simp; try with_reducible rfl
                try simp only [Act.put, List.setIfInBounds_toArray, List.set_cons_zero, List.set_cons_succ]
                refine wpAnyT_pure (i := 12) (v := undef) rfl (by kernel_rfl) (by kernel_rfl) (by kernel_rfl) (fun _ _ _ h => h) (.inr ⟨by kernel_rfl, rfl⟩) (fun _ => hHeld) ?_ (by decide)
                try simp only [Act.put, List.setIfInBounds_toArray, List.set_cons_zero, List.set_cons_succ]
                refine wpAnyT_pure (i := 13) (v := undef) rfl (by kernel_rfl) (by kernel_rfl) (by kernel_rfl) (fun _ _ _ h => h) (.inr ⟨by kernel_rfl, rfl⟩) (fun _ => hHeld) ?_ (by decide)
                try simp only [Act.put, List.setIfInBounds_toArray, List.set_cons_zero, List.set_cons_succ]
                refine wpAnyT_pure (i := 14) (v := undef) rfl (by kernel_rfl) (by kernel_rfl) (by kernel_rfl) (fun _ _ _ h => h) (.inr ⟨by kernel_rfl, rfl⟩) (fun _ => hHeld) ?_ (by decide)
                try simp only [Act.put, List.setIfInBounds_toArray, List.set_cons_zero, List.set_cons_succ]
                refine wpAnyT_pure (i := 15) (v := undef) rfl (by kernel_rfl) (by kernel_rfl) (by kernel_rfl) (fun _ _ _ h => h) (.inr ⟨by kernel_rfl, rfl⟩) (fun _ => hHeld) ?_ (by decide)
                try simp only [Act.put, List.setIfInBounds_toArray, List.set_cons_zero, List.set_cons_succ]
                refine wpAnyT_pure (i := 16) (v := undef) rfl (by kernel_rfl) (by kernel_rfl) (by kernel_rfl) (fun _ _ _ h => h) (.inr ⟨by kernel_rfl, rfl⟩) (fun _ => hHeld) ?_ (by decide)
                try simp only [Act.put, List.setIfInBounds_toArray, List.set_cons_zero, List.set_cons_succ]
                refine wpAnyT_pure (i := 17) (v := undef) rfl (by kernel_rfl) (by kernel_rfl) (by kernel_rfl) (fun _ _ _ h => h) (.inr ⟨by kernel_rfl, rfl⟩) (fun _ => hHeld) ?_ (by decide)
                try simp only [Act.put, List.setIfInBounds_toArray, List.set_cons_zero, List.set_cons_succ]
                refine wpAnyT_pure (i := 18) (v := ?_) rfl (by kernel_rfl) (by kernel_rfl) (by kernel_rfl) (fun _ _ _ h => h) (.inl ⟨by kernel_rfl, ?_⟩) (fun _ => hHeld) ?_ (by decide)
                rotate_left
                · intro w9; go_simp; try with_reducible rfl
                try simp only [Act.put, List.setIfInBounds_toArray, List.set_cons_zero, List.set_cons_succ]
                refine wpAnyT_pure (i := 19) (v := ?_) rfl (by kernel_rfl) (by kernel_rfl) (by kernel_rfl) (fun _ _ _ h => h) (.inl ⟨by kernel_rfl, ?_⟩) (fun _ => hHeld) ?_ (by decide)
                rotate_left
                · intro w9; go_simp; try with_reducible rfl
                try simp only [Act.put, List.setIfInBounds_toArray, List.set_cons_zero, List.set_cons_succ]
                refine wpAnyT_next (i := 20) (by kernel_rfl) rfl ?_
                intro K hK
                go_simp
                refine hK.out _ _ (fun h => absurd ((by kernel_rfl : false = _).trans h) Bool.false_ne_true) ?_
                clear hK K
                refine wpAnyT_done (by kernel_rfl) ?_ _
                go_wp2
                go_roundw
                case rel => exact ⟨k' + 1 + 1, by go_num, by omega, Lib.hid (gl.both_drew (HN.out _ (Below.refl _ _) _ HV.out.symm))⟩
                case measure => first | (simp [intOf]; done) | (simp [intOf]; omega)
              | true =>
                obtain ⟨x, hx⟩ : ∃ x, x = n.getD k' 0 := ⟨_, rfl⟩
                have hxi : ∀ h, n[k']'h = x := fun h => by rw [hx, List.getD_eq_getElem?_getD, List.getElem?_eq_getElem h]; rfl
                have HV2 : Hid (gl.Dr it n (gl.D l n j) (k' + 1) = it.takes x) := Lib.hid (by rw [HV.out, hx]; rfl)
                have HK2 : Hid (SlRep gl.prep w5.drew (· < w5.drew.heap.size) (gl.rs it) A' c') := HS5
                have hgs : wr.heap.size + 1 < w5.heap.size := by omega
                have HGS := Lib.hid hgs
                clear hx
                go_upto_region 12 with fail
                refine wp_region_tail [20] (fun wx => ∀ a : Addr, a.block < w5.heap.size → wx.cell? a = w5.cell? a) (by kernel_rfl) (fun _ _ => rfl) ?_
                intro hHeld
                refine wpAnyT_pure (i := 0) (v := ?_) rfl (by kernel_rfl) (by kernel_rfl) (by kernel_rfl) (fun _ _ _ h => h) (.inl ⟨by kernel_rfl, ?_⟩) (fun _ => hHeld) ?_ (by decide)
                rotate_left
                · intro w9; go_simp; try with_reducible rfl
                try simp only [Act.put, List.setIfInBounds_toArray, List.set_cons_zero, List.set_cons_succ]
                refine wpAnyT_pure (i := 1) (v := ?_) rfl (by kernel_rfl) (by kernel_rfl) (by kernel_rfl) (fun _ _ _ h => h) (.inl ⟨by kernel_rfl, ?_⟩) (fun _ => hHeld) ?_ (by decide)
                rotate_left
                · intro w9; go_simp; try with_reducible rfl
                try simp only [Act.put, List.setIfInBounds_toArray, List.set_cons_zero, List.set_cons_succ]
                refine wpAnyT_pure (i := 2) (v := ?_) rfl (by kernel_rfl) (by kernel_rfl) (by kernel_rfl) (fun _ _ _ h => h) (.inl ⟨by kernel_rfl, ?_⟩) (fun _ => hHeld) ?_ (by decide)
                rotate_left
                · intro w9; go_simp; try with_reducible rfl
                try simp only [Act.put, List.setIfInBounds_toArray, List.set_cons_zero, List.set_cons_succ]
                refine wpAnyT_pure (i := 3) (v := ?_) rfl (by kernel_rfl) (by kernel_rfl) (by kernel_rfl) (fun _ _ _ h => h) (.inl ⟨by kernel_rfl, ?_⟩) (fun _ => hHeld) ?_ (by decide)
                rotate_left
                · intro w9; go_simp; try with_reducible rfl
                try simp only [Act.put, List.setIfInBounds_toArray, List.set_cons_zero, List.set_cons_succ]
                refine wpAnyT_pure (i := 4) (v := ?_) rfl (by kernel_rfl) (by kernel_rfl) (by kernel_rfl) (fun _ _ _ h => h) (.inl ⟨by kernel_rfl, ?_⟩) (fun _ => hHeld) ?_ (by decide)
                rotate_left
                · intro w9; go_simp; try with_reducible rfl
                try simp only [Act.put, List.setIfInBounds_toArray, List.set_cons_zero, List.set_cons_succ]
                refine wpAnyT_pure (i := 5) (v := ?_) rfl (by kernel_rfl) (by kernel_rfl) (by kernel_rfl) (fun _ _ _ h => h) (.inl ⟨by kernel_rfl, ?_⟩) (fun _ => hHeld) ?_ (by decide)
                rotate_left
                · intro w9; go_simp; try with_reducible rfl
                try simp only [Act.put, List.setIfInBounds_toArray, List.set_cons_zero, List.set_cons_succ]
                refine wpAnyT_pure (i := 6) (v := ?_) rfl (by kernel_rfl) (by kernel_rfl) (by kernel_rfl) (fun _ _ _ h => h) (.inl ⟨by kernel_rfl, ?_⟩) (fun _ => hHeld) ?_ (by decide)
                rotate_left
                · intro w9; go_simp; try with_reducible rfl
                try simp only [Act.put, List.setIfInBounds_toArray, List.set_cons_zero, List.set_cons_succ]
                refine wpAnyT_pure (i := 7) (v := ?_) rfl (by kernel_rfl) (by kernel_rfl) (by kernel_rfl) (fun _ _ _ h => h) (.inl ⟨by kernel_rfl, ?_⟩) (fun _ => hHeld) ?_ (by decide)
                rotate_left
                · intro w9; go_simp; try with_reducible rfl
                try simp only [Act.put, List.setIfInBounds_toArray, List.set_cons_zero, List.set_cons_succ]
                refine wpAnyT_pure (i := 8) (v := ?_) rfl (by kernel_rfl) (by kernel_rfl) (by kernel_rfl) (fun _ _ _ h => h) (.inl ⟨by kernel_rfl, ?_⟩) (fun _ => hHeld) ?_ (by decide)
                rotate_left
                · intro w9; go_simp; try with_reducible rfl
                try simp only [Act.put, List.setIfInBounds_toArray, List.set_cons_zero, List.set_cons_succ]
                refine wpAnyT_take (i := 9) [10, 11, 18, 20] (v := ?_) rfl (by kernel_rfl) (by kernel_rfl) (by kernel_rfl) (by kernel_rfl) (fun _ _ _ h => h) (.inl ⟨by kernel_rfl, ?_⟩) hHeld ?_
                rotate_left
                · intro w9 hS9; (try dsimp only at hS9); have e9 := (hS9 ⟨g, k', none⟩ (by simp only; omega)).trans p3; clear hS9; go_simp; try with_reducible rfl
                try simp only [Act.put, List.setIfInBounds_toArray, List.set_cons_zero, List.set_cons_succ]
                refine wpAnyT_pure (i := 10) (v := ?_) rfl (by kernel_rfl) (by kernel_rfl) (by kernel_rfl) (fun _ _ _ h => h) (.inl ⟨by kernel_rfl, ?_⟩) (fun _ => hHeld) ?_ (by decide)
                rotate_left
                · intro w9; go_simp; try with_reducible rfl
                try simp only [Act.put, List.setIfInBounds_toArray, List.set_cons_zero, List.set_cons_succ]
                refine wpAnyT_pure (i := 11) (v := ?_) rfl (by kernel_rfl) (by kernel_rfl) (by kernel_rfl) (fun _ _ _ h => h) (.inl ⟨by kernel_rfl, ?_⟩) (fun _ => hHeld) ?_ (by decide)
                rotate_left
                · intro w9; go_simp; try with_reducible rfl
                try simp only [Act.put, List.setIfInBounds_toArray, List.set_cons_zero, List.set_cons_succ]
                refine wpAnyT_take (i := 12) [17, 18, 20] (v := ?_) rfl (by kernel_rfl) (by kernel_rfl) (by kernel_rfl) (by kernel_rfl) (fun _ _ _ h => h) (.inl ⟨by kernel_rfl, ?_⟩) hHeld ?_
                rotate_left
                · intro w9 hS9; (try dsimp only at hS9); have e0 := (hS9 ⟨wr.heap.size, 0, none⟩ (by simp only; omega)).trans i0; have e1 := (hS9 ⟨wr.heap.size, 1, none⟩ (by simp only; omega)).trans i1; have e2 := (hS9 ⟨wr.heap.size, 2, none⟩ (by simp only; omega)).trans i2; have e3 := (hS9 ⟨wr.heap.size, 3, none⟩ (by simp only; omega)).trans i3; clear hS9; go_simp; try with_reducible rfl
                try simp only [Act.put, List.setIfInBounds_toArray, List.set_cons_zero, List.set_cons_succ]
                refine wpAnyT_pure (i := 13) (v := ?_) rfl (by kernel_rfl) (by kernel_rfl) (by kernel_rfl) (fun _ _ _ h => h) (.inl ⟨by kernel_rfl, ?_⟩) (fun _ => hHeld) ?_ (by decide)
                rotate_left
                · intro w9; go_simp; try with_reducible rfl
                try simp only [Act.put, List.setIfInBounds_toArray, List.set_cons_zero, List.set_cons_succ]
                refine wpAnyT_pure (i := 14) (v := ?_) rfl (by kernel_rfl) (by kernel_rfl) (by kernel_rfl) (fun _ _ _ h => h) (.inl ⟨by kernel_rfl, ?_⟩) (fun _ => hHeld) ?_ (by decide)
                rotate_left
                · intro w9; go_simp; try with_reducible rfl
                try simp only [Act.put, List.setIfInBounds_toArray, List.set_cons_zero, List.set_cons_succ]
                refine wpAnyT_pure (i := 15) (v := ?_) rfl (by kernel_rfl) (by kernel_rfl) (by kernel_rfl) (fun _ _ _ h => h) (.inl ⟨by kernel_rfl, ?_⟩) (fun _ => hHeld) ?_ (by decide)
                rotate_left
                · intro w9; go_simp; try with_reducible rfl
                try simp only [Act.put, List.setIfInBounds_toArray, List.set_cons_zero, List.set_cons_succ]
                refine wpAnyT_pure (i := 16) (v := ?_) rfl (by kernel_rfl) (by kernel_rfl) (by kernel_rfl) (fun _ _ _ h => h) (.inl ⟨by kernel_rfl, ?_⟩) (fun _ => hHeld) ?_ (by decide)
                rotate_left
                · intro w9; go_simp; try with_reducible rfl
                try simp only [Act.put, List.setIfInBounds_toArray, List.set_cons_zero, List.set_cons_succ]
                refine wpAnyT_next (i := 17) (by kernel_rfl) rfl ?_
                intro K hK
                go_simp
                go_at_call 27
                refine (ref_takes it A' c' x _ HK2.out).mono ?_
                rintro e w6 ⟨rfl, hb6⟩
                have n3 := (hb6.cell (p := ⟨wr.heap.size + 1, k' + 1, none⟩) HGS.out).trans n1
                have n4 := (hb6.frozen (p := ⟨wr.heap.size + 1, k' + 1, none⟩) HGS.out).trans n2
                have HB6 := Lib.hid hb6
                clear hb6
                go_simp
                have hHeld2 := (show (fun wx => ∀ a : Addr, a.block < w5.heap.size → wx.cell? a = w5.cell? a) w6 from fun a h => HB6.out.cell h)
                refine hK.out _ _ (fun _ => hHeld2) ?_
                clear hK K hHeld
                have hHeld := hHeld2
                clear hHeld2
                try simp only [Act.put, List.setIfInBounds_toArray, List.set_cons_zero, List.set_cons_succ]
                refine wpAnyT_pure (i := 18) (v := ?_) rfl (by kernel_rfl) (by kernel_rfl) (by kernel_rfl) (fun _ _ _ h => h) (.inl ⟨by kernel_rfl, ?_⟩) (fun _ => hHeld) ?_ (by decide)
                rotate_left
                · intro w9; go_simp; try with_reducible rfl
                try simp only [Act.put, List.setIfInBounds_toArray, List.set_cons_zero, List.set_cons_succ]
                refine wpAnyT_pure (i := 19) (v := ?_) rfl (by kernel_rfl) (by kernel_rfl) (by kernel_rfl) (fun _ _ _ h => h) (.inl ⟨by kernel_rfl, ?_⟩) (fun _ => hHeld) ?_ (by decide)
                rotate_left
                · intro w9; go_simp; try with_reducible rfl
                try simp only [Act.put, List.setIfInBounds_toArray, List.set_cons_zero, List.set_cons_succ]
                refine wpAnyT_next (i := 20) (by kernel_rfl) rfl ?_
                intro K hK
                go_simp
                refine hK.out _ _ (fun h => absurd ((by kernel_rfl : false = _).trans h) Bool.false_ne_true) ?_
                clear hK K
                refine wpAnyT_done (by kernel_rfl) ?_ _
                go_wp2
                go_roundw
                case rel => exact ⟨k' + 1 + 1, by go_num, by omega, Lib.hid (HN.out _ ((Below.refl _ _).drew.trans HB6.out) _ HV2.out.symm)⟩
                case measure => first | (simp [intOf]; done) | (simp [intOf]; omega)
        · obtain rfl : k = n.length + 1 := by omega
          have HE : Hid (gl.RowAt w5 (wr.heap.size + 1) (n.length + 1) (gl.D l n (j + 1))) := Lib.hid (HK.out.1.as (fun i hi => by rw [HDJ.out, if_pos hi]))
          go_wp2
          go_roundw
          case rel => exact ⟨j + 1, wr.heap.size + 1, rfl, by go_num, by omega, HGW.out, Lib.hid ⟨HE.out, HK.out.2.bel⟩⟩
          case measure => simp [intOf]; omega
    · obtain rfl : j = l.length := by omega
      obtain ⟨c1, c2⟩ := HW.out.1.cell (k := n.length) (by omega)
      have HX : Hid (gl.D l n l.length n.length = gl.matches_ l n) := Lib.hid rfl
      rw [HX.out] at c1
      clear c2
      go_wp2
      go_ret
      exact ⟨rfl, HW.out.2⟩
end Go.Proofs.Ytldoihbblgnpjaa
