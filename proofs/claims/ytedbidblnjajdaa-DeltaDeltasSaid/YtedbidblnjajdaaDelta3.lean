/- Package delta: alike, seeds. No condition. -/
import Derived.Test.YtedbidblnjajdaaDeltaQ
import Derived.Test.YtedbidblnjajdaaGroups2
import Derived.Test.YtedbidblnjajdaaStr
import Derived.Test.YtedbidblnjajdaaSl
import Derived.Test.YtedbidblnjajdaaRowOf
import Derived.BigQuiet
import Derived.StringKeys
namespace Go.Proofs.Ytedbidblnjajdaa
open Go.RowKit

theorem elemInts : ElemT Try.prog 68 3 1 8 := ElemT.of Try.underlying68 (z := .int .i64 0) (by kernel_rfl) rfl (by decide)
theorem u8_neq {x y : UInt8} (h : x ≠ y) : (((x.toNat : Nat) : Int) == ((y.toNat : Nat) : Int)) = false := by
  rw [beq_eq_false_iff_ne]
  intro e
  exact h (UInt8.toNat_inj.1 (by omega))
theorem drewN_plus (w : World) (m n : Nat) : (w.drewN m).drewN n = w.drewN (m + n) := by simp [World.drewN, Nat.add_assoc]
theorem ret_num {m n : Nat} (h : m = n) : Ending.returned (.int .i64 (n : Int)) = .returned (.int .i64 (m : Int)) := by rw [h]
theorem blk_same {w w' : World} {A : Option Addr} {xs : List Value} (h : Cells w A xs) (hk : ∀ g, blkOf A = some g → w'.heap[g]? = w.heap[g]?) : Cells w' A xs := by
  rcases h with h | ⟨b, o, rfl, hc⟩
  · exact .inl h
  · exact .inr ⟨b, o, rfl, fun j u hu => (World.cell?_of_block (hk b rfl)).trans (hc j u hu)⟩
namespace deltaq
theorem keyed : Maps.Keyed Try.prog 9 := Maps.string_keyed Try.underlying9
theorem zeroIs (u : World) : (zeroValue 68).run Try.prog u = .ok (.slice none 0 0) u := by kernel_rfl
theorem key_of (l : List UInt8) (h : l.length ≤ 8) : keyOf Try.prog 9 (.string (strOf l)) = some (.string (strOf l).data.toList) :=
  Go.WideMaps.keyOf_string_mk Try.underlying9 (by simp [strOf, ByteArray.size, maxLen]; omega)
theorem sd_len {l : List UInt8} {p : Nat} : (sd l p).length ≤ 8 := by simp [sd]; omega
def keyV (l : List UInt8) (p : Nat) : Value := .string (strOf (sd l p))
theorem keyV_inj {l m : List UInt8} {p r : Nat} : keyV l p = keyV m r ↔ sd l p = sd m r := by
  unfold keyV
  rw [Value.string.injEq]
  exact strOf_inj
open Classical in
/-- the places ahead of k where a value's seed stands -/
noncomputable def posV (l : List UInt8) (k : Nat) : Value → List Int := fun v => ((List.range k).filter fun p => decide (p + 8 ≤ l.length ∧ keyV l p = v)).map fun p : Nat => (p : Int)
theorem posV_zero (l : List UInt8) : posV l 0 = fun _ => [] := rfl
theorem posV_len (l : List UInt8) (k : Nat) (v : Value) : (posV l k v).length ≤ k := by
  unfold posV
  rw [List.length_map]
  exact Nat.le_trans (List.length_filter_le _ _) (by simp)
open Classical in
theorem posV_hit {l : List UInt8} {k : Nat} (h : k + 8 ≤ l.length) : posV l (k + 1) = putAt (posV l k) (keyV l k) (posV l k (keyV l k) ++ [(k : Int)]) := by
  funext v
  by_cases hv : v = keyV l k
  · subst hv
    rw [putAt_same]
    unfold posV
    rw [List.range_succ, List.filter_append, List.map_append]
    simp [h]
  · rw [putAt_other _ _ hv]
    unfold posV
    rw [List.range_succ, List.filter_append]
    simp only [List.filter_cons, List.filter_nil]
    rw [if_neg (fun e => hv (of_decide_eq_true e).2.symm), List.append_nil]
open Classical in
theorem posV_miss {l : List UInt8} {k : Nat} (h : l.length < k + 8) : posV l (k + 1) = posV l k := by
  funext v
  unfold posV
  rw [List.range_succ, List.filter_append]
  simp only [List.filter_cons, List.filter_nil]
  rw [if_neg (fun e => by have := (of_decide_eq_true e).1; omega), List.append_nil]
theorem posV_far {l : List UInt8} {k : Nat} (h : l.length < k + 8) : ∀ n, posV l (k + n) = posV l k
  | 0 => rfl
  | n + 1 => by rw [← Nat.add_assoc, posV_miss (by omega), posV_far h n]
theorem posV_at (o n : List UInt8) (a : Nat) : posV o o.length (keyV n a) = (all o n a).map fun p : Nat => (p : Int) := by
  unfold posV all poss
  exact congrArg _ (List.filter_congr fun p _ => decide_eq_decide.2 (and_congr_right fun _ => keyV_inj))
end deltaq

set_option maxHeartbeats 1000000 in
theorem delta_alike (l r : List UInt8) (A A' : Option Addr) (c c' : Nat) (w : World) {S S' : Nat → Prop} (hl : SlRep Rep.u8 w S l A c) (hr : SlRep Rep.u8 w S' r A' c') (hn : l.length ≤ 2048) (hn' : r.length ≤ 2048) :
    Calls Try.prog 52 #[.slice A l.length c, .slice A' r.length c'] w fun e w' => e = .returned (.int .i64 (deltaq.al l r)) ∧ ∃ m, w' = w.drewN m := by
  have HL := Lib.hid hl
  have HR := Lib.hid hr
  clear hl hr
  go_enter Try.func52, Try.ntmps52
  go_wp2
  go_loopw [5] (fun i wr => ∃ n m : Nat, n ≤ l.length ∧ n ≤ r.length ∧ i = .int .i64 n ∧ wr = w.drewN m ∧ Hid (deltaq.upto l r n)) (fun i _ => l.length - (intOf i).toNat)
  case atStart => exact ⟨0, 0, by omega, by omega, rfl, rfl, Lib.hid (deltaq.upto_zero l r)⟩
  case round =>
    obtain ⟨n, m, hn2, hn3, rfl, rfl, HU⟩ := hrel
    by_cases h1 : n < l.length
    · have h1i : (n : Int) < (l.length : Int) := by omega
      by_cases h2 : n < r.length
      · have h2i : (n : Int) < (r.length : Int) := by omega
        obtain ⟨b, o, rfl, _, hc1⟩ := u8_at HL.out h1
        obtain ⟨b', o', rfl, _, hc2⟩ := u8_at HR.out h2
        by_cases h3 : l.getD n 0 = r.getD n 0
        · have HU2 := Lib.hid (deltaq.upto_succ HU.out h1 h2 h3)
          rw [h3] at hc1
          clear HU h3
          generalize r.getD n 0 = x at *
          go_wp2
          go_quiet (fail)
          go_wp2
          go_roundw
          case rel => exact ⟨n + 1, _, h1, h2, by go_num, rfl, HU2⟩
          case measure => simp [intOf]; omega
        · have HX := Lib.hid (deltaq.upto_ne HU.out h1 h2 h3)
          have hq := u8_neq h3
          clear HU h3
          generalize r.getD n 0 = x at *
          generalize l.getD n 0 = y at *
          go_wp2
          go_quiet (fail)
          go_wp2
          go_ret
          exact ⟨ret_num HX.out, _, drewN_plus _ _ _⟩
      · have h2d : decide ((n : Int) < (r.length : Int)) = false := by simp; omega
        have HX := Lib.hid (deltaq.upto_end HU.out (.inr (by omega)))
        clear HU
        go_wp2
        go_quiet (fail)
        go_wp2
        go_ret
        exact ⟨ret_num HX.out, _, drewN_plus _ _ _⟩
    · have h1d : decide ((n : Int) < (l.length : Int)) = false := by simp; omega
      have HX := Lib.hid (deltaq.upto_end HU.out (.inl (by omega)))
      clear HU
      go_wp2
      go_quiet (fail)
      go_wp2
      go_ret
      exact ⟨ret_num HX.out, _, drewN_plus _ _ _⟩

set_option maxRecDepth 100000 in
set_option maxHeartbeats 2000000 in
theorem delta_seeds (l : List UInt8) (A : Option Addr) (c : Nat) (w : World) (hl : SlRep Rep.u8 w (· < w.heap.size) l A c) (hn : l.length ≤ 2048) :
    Calls Try.prog 51 #[.slice A l.length c] w fun e w' => e = .returned (.map (some w.heap.size)) ∧ Groups Try.prog 9 3 .i64 w' w.heap.size w.heap.size 2048 (fun _ => False) (deltaq.posV l l.length) ∧ Below w.heap.size w w' := by
  have hmm := @run_makeMap Try.prog
  have HL := Lib.hid hl
  clear hl
  go_enter Try.func51, Try.ntmps51
  go_wp2
  go_loopw [4] (fun i wr => ∃ k : Nat, i = .int .i64 k ∧ k ≤ l.length ∧ Hid (Groups Try.prog 9 3 .i64 wr w.heap.size w.heap.size k (fun _ => False) (deltaq.posV l k)) ∧ Below w.heap.size w wr) (fun i _ => l.length - (intOf i).toNat)
  case atStart => exact ⟨0, rfl, by omega, Lib.hid (Groups.made _ _ _ _ _ _ _ (fun h => h)), (by repeat (first | (with_reducible exact Below.refl _ _) | (with_reducible assumption) | (with_reducible refine bset ?_ ?_ _) | (with_reducible refine balloc ?_ _) | (with_reducible refine Below.drew ?_) | (with_reducible refine bdrewN ?_ _) | (with_reducible refine bnext ?_ (by with_reducible assumption)) | exact Nat.le_refl _ | (simp; done) | omega | (simp; omega)))⟩
  case round =>
    obtain ⟨k, rfl, hk, HG, hB⟩ := hrel
    rename World => wr
    have hbm : w.heap.size < wr.heap.size := HG.out.lt
    by_cases h8 : k + 8 ≤ l.length
    · have h8i : (k : Int) + 8 ≤ (l.length : Int) := by omega
      have HP := Lib.hid (deltaq.posV_hit h8)
      have HLr : Hid (SlRep Rep.u8 wr (· < w.heap.size) l A c) := Lib.hid (HL.out.keep fun q hq => ⟨hq, hB.block q hq⟩)
      have hcl := fun W => run_cut_lh (P := Try.prog) elemU8 A l.length c k 8 (by have := HL.out.1; omega) (k : Int) ((k : Int) + 8) rfl rfl W
      have hcut := HLr.out.cut (f := k) (n := 8) h8
      have hlen : ((l.drop k).take 8).length = 8 := by simp; omega
      have hst := run_string hcut
      rw [hlen] at hst
      have hst2 : (convert 23 9 (.slice (cutA A c k 1) 8 (c - k))).run Try.prog wr = .ok (.string (strOf (deltaq.sd l k))) wr := hst
      have HK := Lib.hid (deltaq.key_of (deltaq.sd l k) deltaq.sd_len)
      rw [show deltaq.keyV l k = .string (strOf (deltaq.sd l k)) from rfl] at HP
      clear hst hlen hcut HLr
      generalize strOf (deltaq.sd l k) = ky at *
      have hst := hst2
      clear hst2
      go_wp2_with (first
        | (at_builtin; refine wp_app _ rfl _ _ _ rfl elemInts w.heap.size _ _ _ _ rfl (ho1.alloc _) _ 1 1 [.int .i64 (k : Int)] rfl rfl (Cells.newAt _ _ _ rfl) (by simp [Value.oneCell']) (by omega) (by unfold maxLen; omega) (by simp; omega) ?_; intro A2 c2 w2 ho2 hg2)
        | (refine wp_look _ rfl _ _ _ rfl 68 deltaq.keyed Try.underlying93 (deltaq.zeroIs _) rfl HG.out (by unfold maxLen; omega) (.string ky) _ rfl HK.out ?_; intro A1 m1 c1 ho1 hno1 hback1; have hm1 : m1 ≤ 2048 := (by have h1 := ho1.len; have h2 := deltaq.posV_len l k (.string ky); rw [List.length_map] at h1; omega))
        | (refine wp_store _ rfl _ _ _ _ rfl hback1 rfl rfl rfl (Nat.le_trans (by simp) hg2.grown.size) (fun j hj hne => (hg2.grown.block j (by simp; omega) (fun e => hne e.symm)).trans (Below.heap_alloc _ _ j hj)) (zs := deltaq.posV l k (.string ky) ++ [(k : Int)]) (by rw [List.map_append]; exact ho2) (hg2.blk.imp id (fun ⟨g, h1, h2⟩ => ⟨g, Nat.le_trans (by simp) h1, h2⟩)) (fun _ _ h => h) ?_; intro w3 hG3 hg3)
        | fail)
      have hB2 : Below w.heap.size w w2 := Grew.step (balloc hB _) hg2 (fun q hq => (ho1.lt q hq).1)
      have HG3 := Lib.hid hG3
      clear hG3 HG
      go_roundw
      case rel => exact ⟨k + 1, by go_num, by omega, by rw [HP.out]; exact HG3, hB2.grown hg3 (by have := hB2.size; omega) (fun j hj => by cases hj; exact Nat.le_refl _)⟩
      case measure => simp [intOf]; omega
    · have h8i : ¬ (k : Int) + 8 ≤ (l.length : Int) := by omega
      have HE : Hid (deltaq.posV l l.length = deltaq.posV l k) := Lib.hid (by rw [← deltaq.posV_far (l := l) (k := k) (by omega) (l.length - k), show k + (l.length - k) = l.length by omega])
      go_wp2
      go_ret
      exact ⟨rfl, by rw [HE.out]; exact HG.out.more (by omega), hB⟩
end Go.Proofs.Ytedbidblnjajdaa
