/- Package hole: the reference of Add: came, put. No condition. -/
import Derived.Test.YtedbidblnjajdaaAddP
import Derived.Test.YtedbidblnjajdaaSl
import Derived.Test.YtedbidblnjajdaaRowOf
import Derived.Deep.RegionLaw
import Derived.BigQuiet
namespace Go.Proofs.Ytedbidblnjajdaa
open Go.RowKit

namespace had
theorem elemI : ElemT Try.prog 68 3 1 8 := ElemT.of Try.underlying68 (z := .int .i64 0) (by kernel_rfl) rfl (by decide)
theorem take_succ {l : List Rng} {k : Nat} (h : k < l.length) : l.take (k + 1) = l.take k ++ [l.getD k Rng.z] := by
  rw [List.take_succ, List.getD_eq_getElem?_getD, List.getElem?_eq_getElem h]
  rfl
open Classical in
noncomputable def camB (done : Int) (all : List Rng) (n : Int) : Bool := decide (came done all n)
theorem camB_true {done : Int} {all : List Rng} {n : Int} (h : came done all n) : camB done all n = true := by simp [camB, h]
theorem camB_false {done : Int} {all : List Rng} {n : Int} (h : ¬ came done all n) : camB done all n = false := by simp [camB, h]
theorem camB_iff {done : Int} {all : List Rng} {n : Int} : camB done all n = true ↔ came done all n := by simp [camB]
end had
theorem ret_b {a b : Bool} (h : a = b) : Ending.returned (.bool b) = .returned (.bool a) := by rw [h]

set_option maxHeartbeats 1000000 in
theorem ref_came (done n : Int) (all : List Rng) (A : Option Addr) (c : Nat) (w : World) (hl : SlRep Rng.rep w (· < w.heap.size) all A c) (hn : all.length ≤ 1000) :
    Calls Try.prog 72 #[.int .i64 done, .slice A all.length c, .int .i64 n] w fun e w' => e = .returned (.bool (had.camB done all n)) ∧ Below w.heap.size w w' := by
  have HL := Lib.hid hl
  clear hl
  go_enter Try.func72, Try.ntmps72
  by_cases h1 : n < done
  · have HR : Hid (had.camB done all n = true) := Lib.hid (had.camB_true (.inl h1))
    go_wp2
    go_ret
    exact ⟨ret_b HR.out, Below.refl _ _⟩
  · go_wp2
    go_loopw [14] (fun i wr => ∃ k : Nat, i = .int .i64 k ∧ k ≤ all.length ∧ Hid (¬ had.cov (all.take k) n) ∧ Below w.heap.size w wr) (fun i _ => all.length - (intOf i).toNat)
    case atStart => exact ⟨0, rfl, by omega, Lib.hid (had.cov_nil n), Below.refl _ _⟩
    case round =>
      obtain ⟨k, rfl, hk, HC, hB⟩ := hrel
      by_cases hlt : k < all.length
      · obtain ⟨b, o, rfl, hb, hc1, hc2⟩ := Rng.cells_at Rng.z (HL.out.below hB) hlt
        rename World => wr
        have hbw : b < wr.heap.size := Nat.lt_of_lt_of_le hb hB.size
        have hlti : (k : Int) < (all.length : Int) := by omega
        have HS := Lib.hid (had.take_succ hlt)
        have HM : Hid (all.getD k Rng.z ∈ all) := Lib.hid (by rw [List.getD_eq_getElem?_getD, List.getElem?_eq_getElem hlt]; exact List.getElem_mem hlt)
        generalize all.getD k Rng.z = x at *
        obtain ⟨x0, x1⟩ := x
        dsimp only at hc1 hc2
        by_cases c1 : x0 ≤ n
        · by_cases c2 : n < x1
          · have HR : Hid (had.camB done all n = true) := Lib.hid (had.camB_true (.inr ⟨_, HM.out, c1, c2⟩))
            go_wp2
            go_ret
            exact ⟨ret_b HR.out, (by repeat (first | (with_reducible exact Below.refl _ _) | (with_reducible assumption) | (with_reducible refine bset ?_ ?_ _) | (with_reducible refine balloc ?_ _) | (with_reducible refine Below.drew ?_) | (with_reducible refine bdrewN ?_ _) | (with_reducible refine bnext ?_ (by with_reducible assumption)) | exact Nat.le_refl _ | (simp; done) | omega | (simp; omega)))⟩
          · have HN : Hid (¬ had.cov (all.take (k + 1)) n) := Lib.hid (by rw [HS.out, had.cov_app, had.cov_cons]; rintro (h | h | h); exact HC.out h; exact c2 h.2; exact had.cov_nil n h)
            go_wp2
            go_roundw
            case rel => exact ⟨k + 1, by go_num, by omega, HN, (by repeat (first | (with_reducible exact Below.refl _ _) | (with_reducible assumption) | (with_reducible refine bset ?_ ?_ _) | (with_reducible refine balloc ?_ _) | (with_reducible refine Below.drew ?_) | (with_reducible refine bdrewN ?_ _) | (with_reducible refine bnext ?_ (by with_reducible assumption)) | exact Nat.le_refl _ | (simp; done) | omega | (simp; omega)))⟩
            case measure => simp [intOf]; omega
        · have HN : Hid (¬ had.cov (all.take (k + 1)) n) := Lib.hid (by rw [HS.out, had.cov_app, had.cov_cons]; rintro (h | h | h); exact HC.out h; exact c1 h.1; exact had.cov_nil n h)
          go_wp2
          go_roundw
          case rel => exact ⟨k + 1, by go_num, by omega, HN, (by repeat (first | (with_reducible exact Below.refl _ _) | (with_reducible assumption) | (with_reducible refine bset ?_ ?_ _) | (with_reducible refine balloc ?_ _) | (with_reducible refine Below.drew ?_) | (with_reducible refine bdrewN ?_ _) | (with_reducible refine bnext ?_ (by with_reducible assumption)) | exact Nat.le_refl _ | (simp; done) | omega | (simp; omega)))⟩
          case measure => simp [intOf]; omega
      · have HR : Hid (had.camB done all n = false) := Lib.hid (had.camB_false (by
          rintro (h | h)
          · omega
          · have := HC.out
            rw [List.take_of_length_le (by omega)] at this
            exact this h))
        go_wp2
        go_ret
        exact ⟨ret_b HR.out, (by repeat (first | (with_reducible exact Below.refl _ _) | (with_reducible assumption) | (with_reducible refine bset ?_ ?_ _) | (with_reducible refine balloc ?_ _) | (with_reducible refine Below.drew ?_) | (with_reducible refine bdrewN ?_ _) | (with_reducible refine bnext ?_ (by with_reducible assumption)) | exact Nat.le_refl _ | (simp; done) | omega | (simp; omega)))⟩

/-- a box with a row of numbers of its own behind it, in no block of which No holds -/
def IBox (w : World) (B : Nat) (No : Nat → Prop) (P : List Int) : Prop :=
  ∃ A c, w.cell? ⟨B, 0, none⟩ = some (.slice A P.length c) ∧ w.frozen? ⟨B, 0, none⟩ = false ∧ Own w (B + 1) 3 1 A P.length c (P.map (Value.int .i64)) ∧ B < w.heap.size ∧ ¬ No B ∧ ∀ g, blkOf A = some g → ¬ No g
theorem IBox.keep {w w' : World} {B : Nat} {No No' : Nat → Prop} {P : List Int} (h : IBox w B No P) (hk : ∀ j, j < w.heap.size → ¬ No j → w'.heap[j]? = w.heap[j]?) (hs : w.heap.size ≤ w'.heap.size) (hn : ∀ j, No' j → No j ∨ w.heap.size ≤ j) : IBox w' B No' P := by
  obtain ⟨A, c, h1, h2, h3, h4, h5, h6⟩ := h
  refine ⟨A, c, (World.cell?_of_block (hk B h4 h5)).trans h1, (World.frozen?_of_block (hk B h4 h5)).trans h2, ?_, by omega, fun e => ?_, fun g hg e => ?_⟩
  · refine ⟨h3.1, ?_⟩
    rcases h3.2 with h | ⟨g, cap, cur, e1, e2, e3, e4⟩
    · exact .inl h
    · have hg : blkOf A = some g := by
        simp only [Value.slice.injEq] at e1
        rw [e1.1]; rfl
      exact .inr ⟨g, cap, cur, e1, e2, (hk g (h3.lt g hg).2 (h6 g hg)).trans e3, e4⟩
  · rcases hn B e with h | h
    · exact h5 h
    · omega
  · rcases hn g e with h | h
    · exact h6 g hg h
    · have := (h3.lt g hg).2; omega
theorem int_cells {w : World} {base e n c : Nat} {A : Option Addr} {P : List Int} (h : Own w base e 1 A n c (P.map (Value.int .i64))) {j : Nat} (hj : j < P.length) : ∃ g, A = some ⟨g, 0, none⟩ ∧ base ≤ g ∧ g < w.heap.size ∧ w.cell? ⟨g, j, none⟩ = some (.int .i64 (P.getD j 0)) :=
  h.cell (by rw [List.getElem?_map, List.getElem?_eq_getElem hj, List.getD_eq_getElem?_getD, List.getElem?_eq_getElem hj]; rfl)
/-- the first k cells of a row -/
theorem Own.front {w : World} {base e n c : Nat} {A : Option Addr} {xs : List Value} (h : Own w base e 1 A n c xs) {k : Nat} (hk : k ≤ n) : Own w base e 1 A k c (xs.take k) := by
  have hl := h.len
  refine ⟨by rw [List.length_take]; omega, ?_⟩
  rcases h.2 with ⟨h1, h2⟩ | ⟨g, cap, cur, h1, h2, h3, h4, h5, h6, h7⟩
  · simp only [Value.slice.injEq] at h1
    exact .inl ⟨by rw [h1.1, h1.2.2, show k = 0 by omega], by omega⟩
  · simp only [Value.slice.injEq] at h1
    exact .inr ⟨g, cap, cur, by rw [h1.1, h1.2.2], h2, h3, by omega, h5, h6, by rw [← h7, List.take_take]; congr 1; omega⟩
theorem Own.back {w : World} {base e n c : Nat} {A : Option Addr} {xs : List Value} (h : Own w base e 1 A n c xs) {k : Nat} (hk : k ≤ n) : Cells w (cutA A c k 1) (xs.drop k) := by
  have hl := h.len
  rcases h.2 with ⟨h1, h2⟩ | ⟨g, cap, cur, h1, h2, h3, h4, h5, h6, h7⟩
  · exact .inl (List.eq_nil_of_length_eq_zero (by rw [List.length_drop]; omega))
  · by_cases e0 : k = n
    · exact .inl (List.eq_nil_of_length_eq_zero (by rw [List.length_drop]; omega))
    · simp only [Value.slice.injEq] at h1
      obtain ⟨rfl, _, rfl⟩ := h1
      refine .inr ⟨g, k, by unfold cutA; rw [if_neg (by omega)]; simp [addr_add], fun j u hu => ?_⟩
      rw [List.getElem?_drop] at hu
      obtain ⟨g', e1, _, _, hc⟩ := h.cell hu
      cases e1
      exact hc

set_option maxHeartbeats 4000000 in
theorem ref_insert (n : Int) (B : Nat) (No : Nat → Prop) (P : List Int) (w : World) (hb : IBox w B No P) (hN : ∀ j, No j → j < w.heap.size) (hm : P.length ≤ 1000) :
    Calls Try.prog 71 #[.int .i64 n, .pointer (some ⟨B, 0, none⟩)] w fun e w' => e = .returned (.tuple #[]) ∧ IBox w' B No (had.ins n P) ∧ Below B w w' ∧ ∀ j, No j → w'.heap[j]? = w.heap[j]? := by
  obtain ⟨A, c, hbx, hbf, ho, hBs, hBn, hAn⟩ := hb
  have HO := Lib.hid ho
  have HN := Lib.hid hN
  have HBN := Lib.hid hBn
  have HAN := Lib.hid hAn
  clear ho hN hBn hAn
  go_enter Try.func71, Try.ntmps71
  go_wp2
  go_loop [3] (fun i => ∃ k : Nat, i = .int .i64 k ∧ k ≤ P.length ∧ Hid (∀ i, i < k → P.getD i 0 < n)) (fun i => P.length - (intOf i).toNat)
  case atStart => exact ⟨0, rfl, by omega, Lib.hid (fun i hi => absurd hi (Nat.not_lt_zero i))⟩
  case round =>
    obtain ⟨k, rfl, hk, HK⟩ := hrel
    have HI := Lib.hid (had.ins_at (n := n) (l := P) (k := k) hk HK.out)
    by_cases hlt : k < P.length
    · have hlti : (k : Int) < (P.length : Int) := by omega
      obtain ⟨g, rfl, hgA, hgB, hcx⟩ := int_cells HO.out hlt
      have HKS : Hid (P.getD k 0 < n → ∀ i, i < k + 1 → P.getD i 0 < n) := Lib.hid (fun h i hi => by
        by_cases e : i = k
        · subst e; exact h
        · exact HK.out i (by omega))
      clear HK
      by_cases c1 : P.getD k 0 < n
      · have HK2 := Lib.hid (HKS.out c1)
        clear HKS HI
        generalize P.getD k 0 = x at *
        go_wp2
        go_round
        case rel => exact ⟨k + 1, by go_num, by omega, HK2⟩
        case measure => simp [intOf]; omega
      · have hkq : ((k : Int) == (P.length : Int)) = false := by rw [beq_eq_false_iff_ne]; omega
        have HE : Hid (had.ins n P = if k < P.length ∧ P.getD k 0 = n then P else P.take k ++ n :: P.drop k) := Lib.hid (HI.out (fun _ => by omega))
        clear HI HKS
        by_cases c2 : P.getD k 0 = n
        · have HE2 : Hid (had.ins n P = P) := Lib.hid (by rw [HE.out, if_pos ⟨hlt, c2⟩])
          rw [c2] at hcx
          clear HE c1 c2
          go_wp2
          go_end0
          exact ⟨rfl, by rw [HE2.out]; exact ⟨_, c, hbx, hbf, HO.out, hBs, HBN.out, HAN.out⟩, Below.refl _ _, fun _ _ => rfl⟩
        · have hne : (P.getD k 0 == n) = false := by rw [beq_eq_false_iff_ne]; exact c2
          have HE2 : Hid (had.ins n P = P.take k ++ n :: P.drop k) := Lib.hid (by rw [HE.out, if_neg (fun e => c2 e.2)])
          clear HE c2
          generalize P.getD k 0 = x at *
          have hcc := HO.out.cap
          have hsh := fun W => run_cut_h (P := Try.prog) had.elemI (some ⟨g, 0, none⟩) P.length c k (by omega) (k : Int) rfl W
          have hsl := fun W => run_cut_l (P := Try.prog) had.elemI (some ⟨g, 0, none⟩) P.length c k hk (k : Int) rfl W
          have HLIT : Hid (∀ m, Own ((w.drewN m).alloc (.cells #[.int .i64 n] 3)) (B + 1) 3 1 (some ⟨w.heap.size, 0, none⟩) 1 1 [.int .i64 n]) := Lib.hid fun m => Own.lit (w.drewN m) (B + 1) 3 1 1 [.int .i64 n] hBs rfl (by unfold maxLen; omega)
          have HNX : Hid (∀ m o, Below w.heap.size w ((w.drewN m).alloc o)) := Lib.hid fun m o => balloc (bdrewN (bself w) m) o
          have HBK : Hid (∀ m o, Cells ((w.drewN m).alloc o) (cutA (some ⟨g, 0, none⟩) c k 1) ((P.map (Value.int .i64)).drop k)) := Lib.hid fun m o => (HO.out.next (HNX.out m o)).back hk
          have HFR : Hid (∀ m o, Own ((w.drewN m).alloc o) (B + 1) 3 1 (some ⟨g, 0, none⟩) k c ((P.map (Value.int .i64)).take k)) := Lib.hid fun m o => (HO.out.next (HNX.out m o)).front hk
          have HBX : Hid (∀ m o, ((w.drewN m).alloc o).cell? ⟨B, 0, none⟩ = some (.slice (some ⟨g, 0, none⟩) P.length c)) := Lib.hid fun m o => ((HNX.out m o).cell (p := ⟨B, 0, none⟩) hBs).trans hbx
          have HBF : Hid (∀ m o, ((w.drewN m).alloc o).frozen? ⟨B, 0, none⟩ = false) := Lib.hid fun m o => ((HNX.out m o).frozen (p := ⟨B, 0, none⟩) hBs).trans hbf
          have HLT : Hid (∀ q, blkOf (some ⟨g, 0, none⟩) = some q → B + 1 ≤ q ∧ q < w.heap.size) := Lib.hid HO.out.lt
          have HSZ : Hid (∀ m o, w.heap.size + 1 ≤ ((w.drewN m).alloc o).heap.size) := Lib.hid fun m o => by simp
          have HB1 : Hid (∀ m o, B + 1 ≤ ((w.drewN m).alloc o).heap.size) := Lib.hid fun m o => Nat.le_trans hBs (HNX.out m o).size
          have HN1 : Hid (∀ q, blkOf (some (⟨w.heap.size, 0, none⟩ : Addr)) = some q → q = w.heap.size) := Lib.hid fun q hq => by cases hq; rfl
          have HDL : Hid (((P.map (Value.int .i64)).drop k).length = (P.length - k) * 1) := Lib.hid (by simp)
          have HON : Hid (∀ u ∈ (P.map (Value.int .i64)).drop k, u.oneCell' = true) := Lib.hid (fun u hu => by obtain ⟨y, _, rfl⟩ := List.mem_map.1 (List.mem_of_mem_drop hu); rfl)
          have HON2 : Hid (∀ u ∈ [Value.int .i64 n] ++ (P.map (Value.int .i64)).drop k, u.oneCell' = true) := Lib.hid (fun u hu => by
            rcases List.mem_append.1 hu with hu | hu
            · simp at hu; subst hu; rfl
            · exact HON.out u hu)
          have HLN : Hid ((had.ins n P).length = k + (1 + (P.length - k))) := Lib.hid (by rw [HE2.out]; simp; omega)
          have HMP : Hid ((P.map (Value.int .i64)).take k ++ ([Value.int .i64 n] ++ (P.map (Value.int .i64)).drop k) = (had.ins n P).map (Value.int .i64)) := Lib.hid (by rw [HE2.out]; simp [List.map_take, List.map_drop])
          clear HE2 HO hcc
          go_wp2_with fail
          go_region_law
            (first
              | ((refine step_app _ (by rfl) _ _ _ (by rfl) had.elemI (B + 1) (some ⟨w.heap.size, 0, none⟩) 1 1 [.int .i64 n] (by rfl) (HLIT.out _) (cutA (some ⟨g, 0, none⟩) c k 1) (P.length - k) _ ((P.map (Value.int .i64)).drop k) (by rfl) HDL.out (HBK.out _ _) HON.out (by omega) (by unfold maxLen; omega) (HB1.out _ _) ?_; intro A2 c2 w2 hO2 hg2; have x0 := (hg2.cell (b := B) 0 (HB1.out _ _) (fun q hq e => by have h2 := HN1.out q hq; omega)).trans (HBX.out _ _)))
              | ((refine step_app _ (by rfl) _ _ _ (by rfl) had.elemI (B + 1) (some ⟨g, 0, none⟩) k c ((P.map (Value.int .i64)).take k) (by rfl) ((HFR.out _ _).kept' hg2 (fun q hq e => by have h1 := (HLT.out q hq).2; have h2 := HN1.out q e; omega)) A2 (1 + (P.length - k)) _ ([Value.int .i64 n] ++ (P.map (Value.int .i64)).drop k) (by rfl) (by rw [List.length_append, HDL.out]; simp) (Own.cells hO2) HON2.out (by omega) (by unfold maxLen; omega) (Nat.le_trans (HB1.out _ _) hg2.grown.size) ?_; intro A3 c3 w3 hO3 hg3; have y1 : w.heap.size + 1 ≤ w2.heap.size := Nat.le_trans (HSZ.out _ _) hg2.grown.size; have x1 := (hg3.cell (b := B) 0 (by omega) (fun q hq e => by have := (HLT.out q hq).1; omega)).trans ((hg2.cell (b := B) 0 (HB1.out _ _) (fun q hq e => by have h2 := HN1.out q hq; omega)).trans (HBX.out _ _)); have x2 := (hg3.frozen (b := B) 0 (by omega) (fun q hq e => by have := (HLT.out q hq).1; omega)).trans ((hg2.frozen (b := B) 0 (HB1.out _ _) (fun q hq e => by have h2 := HN1.out q hq; omega)).trans (HBF.out _ _))))
              | fail)
          all_goals
            have HO4 := Lib.hid hO3
            have y3 := hg3.grown.size
            have hbl : Below B w w3 := ((((HNX.out _ _).mono (by omega)).grown hg2.grown (Nat.le_of_lt (HB1.out _ _)) (fun j hj => by have h2 := HN1.out j hj; omega)).grown hg3.grown (by omega) (fun j hj => by have := (HLT.out j hj).1; omega))
            have hkp : ∀ j, No j → w3.heap[j]? = w.heap[j]? := fun j hj => by
              have h1 := HN.out j hj
              rw [hg3.grown.block j (by omega) (fun e => HAN.out j e.symm hj), hg2.grown.block j (Nat.lt_of_lt_of_le h1 (HNX.out _ _).size) (fun e => by have h2 := HN1.out j e.symm; omega)]
              exact (HNX.out _ _).block j h1
            have hnw : ∀ q, blkOf A3 = some q → ¬ No q := fun q hq hNq => by
              rcases hg3.blk with e | ⟨q', e1, e2⟩
              · exact HAN.out q (e ▸ hq) hNq
              · rw [e2] at hq
                cases hq
                have := HN.out _ hNq
                omega
            rw [HMP.out] at HO4
            go_end0
            refine ⟨rfl, ⟨A3, c3, ?_, ?_, ?_, ?_, HBN.out, hnw⟩, hbl.setCell (p := ⟨B, 0, none⟩) (Nat.le_refl _) _, fun j hj => ?_⟩
            · rw [HLN.out]; simp [go_sem, x1]
            · simpa [go_sem] using x2
            · rw [HLN.out]; exact HO4.out.setCell (fun e => by have := (HO4.out.lt B e).1; omega) _
            · simpa [World.setCell] using (show B < w3.heap.size by omega)
            · have hjB : j ≠ B := fun e => HBN.out (e ▸ hj)
              exact (Below.heap_setCell w3 ⟨B, 0, none⟩ _ j hjB).trans (hkp j hj)
    · have hlti : ¬ (k : Int) < (P.length : Int) := by omega
      have hkq : ((k : Int) == (P.length : Int)) = true := by rw [beq_iff_eq]; omega
      have HE2 : Hid (had.ins n P = P.take k ++ n :: P.drop k) := Lib.hid (by rw [HI.out (fun h => absurd h hlt), if_neg (fun e => hlt e.1)])
      clear HI HK
      have hcc := HO.out.cap
      have hsh := fun W => run_cut_h (P := Try.prog) had.elemI A P.length c k (by omega) (k : Int) rfl W
      have hsl := fun W => run_cut_l (P := Try.prog) had.elemI A P.length c k hk (k : Int) rfl W
      have HLIT : Hid (∀ m, Own ((w.drewN m).alloc (.cells #[.int .i64 n] 3)) (B + 1) 3 1 (some ⟨w.heap.size, 0, none⟩) 1 1 [.int .i64 n]) := Lib.hid fun m => Own.lit (w.drewN m) (B + 1) 3 1 1 [.int .i64 n] hBs rfl (by unfold maxLen; omega)
      have HNX : Hid (∀ m o, Below w.heap.size w ((w.drewN m).alloc o)) := Lib.hid fun m o => balloc (bdrewN (bself w) m) o
      have HBK : Hid (∀ m o, Cells ((w.drewN m).alloc o) (cutA A c k 1) ((P.map (Value.int .i64)).drop k)) := Lib.hid fun m o => (HO.out.next (HNX.out m o)).back hk
      have HFR : Hid (∀ m o, Own ((w.drewN m).alloc o) (B + 1) 3 1 A k c ((P.map (Value.int .i64)).take k)) := Lib.hid fun m o => (HO.out.next (HNX.out m o)).front hk
      have HBX : Hid (∀ m o, ((w.drewN m).alloc o).cell? ⟨B, 0, none⟩ = some (.slice A P.length c)) := Lib.hid fun m o => ((HNX.out m o).cell (p := ⟨B, 0, none⟩) hBs).trans hbx
      have HBF : Hid (∀ m o, ((w.drewN m).alloc o).frozen? ⟨B, 0, none⟩ = false) := Lib.hid fun m o => ((HNX.out m o).frozen (p := ⟨B, 0, none⟩) hBs).trans hbf
      have HLT : Hid (∀ q, blkOf A = some q → B + 1 ≤ q ∧ q < w.heap.size) := Lib.hid HO.out.lt
      have HSZ : Hid (∀ m o, w.heap.size + 1 ≤ ((w.drewN m).alloc o).heap.size) := Lib.hid fun m o => by simp
      have HB1 : Hid (∀ m o, B + 1 ≤ ((w.drewN m).alloc o).heap.size) := Lib.hid fun m o => Nat.le_trans hBs (HNX.out m o).size
      have HN1 : Hid (∀ q, blkOf (some (⟨w.heap.size, 0, none⟩ : Addr)) = some q → q = w.heap.size) := Lib.hid fun q hq => by cases hq; rfl
      have HDL : Hid (((P.map (Value.int .i64)).drop k).length = (P.length - k) * 1) := Lib.hid (by simp)
      have HON : Hid (∀ u ∈ (P.map (Value.int .i64)).drop k, u.oneCell' = true) := Lib.hid (fun u hu => by obtain ⟨y, _, rfl⟩ := List.mem_map.1 (List.mem_of_mem_drop hu); rfl)
      have HON2 : Hid (∀ u ∈ [Value.int .i64 n] ++ (P.map (Value.int .i64)).drop k, u.oneCell' = true) := Lib.hid (fun u hu => by
        rcases List.mem_append.1 hu with hu | hu
        · simp at hu; subst hu; rfl
        · exact HON.out u hu)
      have HLN : Hid ((had.ins n P).length = k + (1 + (P.length - k))) := Lib.hid (by rw [HE2.out]; simp; omega)
      have HMP : Hid ((P.map (Value.int .i64)).take k ++ ([Value.int .i64 n] ++ (P.map (Value.int .i64)).drop k) = (had.ins n P).map (Value.int .i64)) := Lib.hid (by rw [HE2.out]; simp [List.map_take, List.map_drop])
      clear HE2 HO hcc
      go_wp2_with fail
      go_region_law
        (first
          | ((refine step_app _ (by rfl) _ _ _ (by rfl) had.elemI (B + 1) (some ⟨w.heap.size, 0, none⟩) 1 1 [.int .i64 n] (by rfl) (HLIT.out _) (cutA A c k 1) (P.length - k) _ ((P.map (Value.int .i64)).drop k) (by rfl) HDL.out (HBK.out _ _) HON.out (by omega) (by unfold maxLen; omega) (HB1.out _ _) ?_; intro A2 c2 w2 hO2 hg2; have x0 := (hg2.cell (b := B) 0 (HB1.out _ _) (fun q hq e => by have h2 := HN1.out q hq; omega)).trans (HBX.out _ _)))
          | ((refine step_app _ (by rfl) _ _ _ (by rfl) had.elemI (B + 1) A k c ((P.map (Value.int .i64)).take k) (by rfl) ((HFR.out _ _).kept' hg2 (fun q hq e => by have h1 := (HLT.out q hq).2; have h2 := HN1.out q e; omega)) A2 (1 + (P.length - k)) _ ([Value.int .i64 n] ++ (P.map (Value.int .i64)).drop k) (by rfl) (by rw [List.length_append, HDL.out]; simp) (Own.cells hO2) HON2.out (by omega) (by unfold maxLen; omega) (Nat.le_trans (HB1.out _ _) hg2.grown.size) ?_; intro A3 c3 w3 hO3 hg3; have y1 : w.heap.size + 1 ≤ w2.heap.size := Nat.le_trans (HSZ.out _ _) hg2.grown.size; have x1 := (hg3.cell (b := B) 0 (by omega) (fun q hq e => by have := (HLT.out q hq).1; omega)).trans ((hg2.cell (b := B) 0 (HB1.out _ _) (fun q hq e => by have h2 := HN1.out q hq; omega)).trans (HBX.out _ _)); have x2 := (hg3.frozen (b := B) 0 (by omega) (fun q hq e => by have := (HLT.out q hq).1; omega)).trans ((hg2.frozen (b := B) 0 (HB1.out _ _) (fun q hq e => by have h2 := HN1.out q hq; omega)).trans (HBF.out _ _))))
          | fail)
      all_goals
        have HO4 := Lib.hid hO3
        have y3 := hg3.grown.size
        have hbl : Below B w w3 := ((((HNX.out _ _).mono (by omega)).grown hg2.grown (Nat.le_of_lt (HB1.out _ _)) (fun j hj => by have h2 := HN1.out j hj; omega)).grown hg3.grown (by omega) (fun j hj => by have := (HLT.out j hj).1; omega))
        have hkp : ∀ j, No j → w3.heap[j]? = w.heap[j]? := fun j hj => by
          have h1 := HN.out j hj
          rw [hg3.grown.block j (by omega) (fun e => HAN.out j e.symm hj), hg2.grown.block j (Nat.lt_of_lt_of_le h1 (HNX.out _ _).size) (fun e => by have h2 := HN1.out j e.symm; omega)]
          exact (HNX.out _ _).block j h1
        have hnw : ∀ q, blkOf A3 = some q → ¬ No q := fun q hq hNq => by
          rcases hg3.blk with e | ⟨q', e1, e2⟩
          · exact HAN.out q (e ▸ hq) hNq
          · rw [e2] at hq
            cases hq
            have := HN.out _ hNq
            omega
        rw [HMP.out] at HO4
        go_end0
        refine ⟨rfl, ⟨A3, c3, ?_, ?_, ?_, ?_, HBN.out, hnw⟩, hbl.setCell (p := ⟨B, 0, none⟩) (Nat.le_refl _) _, fun j hj => ?_⟩
        · rw [HLN.out]; simp [go_sem, x1]
        · simpa [go_sem] using x2
        · rw [HLN.out]; exact HO4.out.setCell (fun e => by have := (HO4.out.lt B e).1; omega) _
        · simpa [World.setCell] using (show B < w3.heap.size by omega)
        · have hjB : j ≠ B := fun e => HBN.out (e ▸ hj)
          exact (Below.heap_setCell w3 ⟨B, 0, none⟩ _ j hjB).trans (hkp j hj)
end Go.Proofs.Ytedbidblnjajdaa
