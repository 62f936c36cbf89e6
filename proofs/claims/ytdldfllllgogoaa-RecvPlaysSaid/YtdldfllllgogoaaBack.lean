/- slices.Backward on ranges: its contract, for every loop body that keeps the list and the slice's box. No condition. -/
import Derived.Test.YtdldfllllgogoaaRngs
import Derived.RangeFuncNested
import Derived.RangeFuncBound
import Derived.RangeFuncCalls
import Derived.RangeFuncLeaves
import Derived.RangeFuncBox
import Derived.Shelf.Abstract
import Derived.OwnWalkIn
import Derived.TacticsInMore
import Derived.LoopNIn
import Derived.LoopIn
namespace Go.Proofs.Ytdldfllllgogoaa
open Go.RowKit Go.Shelf
attribute [local go_sem] Oper.semAt_some

/-- what has come when k rounds are over: the last ones first, each with its index -/
def backTo (l : List Rng) : Nat → List (Int × Rng)
  | 0 => []
  | k + 1 => backTo l k ++ [(((l.length - 1 - k : Nat) : Int), l.getD (l.length - 1 - k) Rng.z)]
theorem backTo_length (l : List Rng) (k : Nat) : (backTo l k).length = k := by
  induction k with
  | zero => rfl
  | succ k ih => simp [backTo, ih]
/-- what a round keeps: whatever lay below n₀, and the box of the slice -/
def BackKp (n₀ Bs : Nat) (W W' : World) : Prop := Below n₀ W W' ∧ ∀ v, W.cell? ⟨Bs, 0, none⟩ = some v → W'.cell? ⟨Bs, 0, none⟩ = some v
theorem BackKp.trans {n₀ Bs : Nat} {A B C : World} (h : BackKp n₀ Bs A B) (k : BackKp n₀ Bs B C) : BackKp n₀ Bs A C := ⟨h.1.trans k.1, fun v hv => k.2 v (h.2 v hv)⟩
theorem BackKp.refl (n₀ Bs : Nat) (W : World) : BackKp n₀ Bs W W := ⟨Below.refl _ _, fun _ h => h⟩

set_option maxRecDepth 100000 in
set_option maxHeartbeats 4000000 in
theorem back1_in (F : Fence) (n : Nat) (hf : F.fn 97) (hro : F.round = none) (hn : 1 ≤ n) (lp Bs n₀ : Nat) (l : List Rng) (A : Option Addr) (c : Nat) (hreach : l.length ≤ 140737488351232) (J Jx : List (Int × Rng) → World → Prop)
    (hY : ∀ pre (x : Int × Rng) W, J pre W → pre.length < l.length → YieldAt F (n - 1) Try.prog lp #[.int .i64 x.1, .agg #[.int .i64 x.2.lo, .int .i64 x.2.hi]] W fun e W' =>
      (e = .returned (.bool true) ∧ J (pre ++ [x]) W' ∧ BackKp n₀ Bs W W') ∨ (e = .returned (.bool false) ∧ Jx (pre ++ [x]) W'))
    (W : World) (hBs : W.cell? ⟨Bs, 0, none⟩ = some (.slice A l.length c)) (hl : SlRep Rng.rep W (· < n₀) l A c) (h0 : J [] W) :
    CallsIn F n Try.prog 97 #[.func (.yield lp) #[] #[], .pointer (some ⟨Bs, 0, none⟩)] W fun e W' => (∃ v, e = .returned v) ∧
      ((∃ ys, ys = backTo l l.length ∧ J ys W') ∨ (∃ pre, (∃ k, k ≤ l.length ∧ pre = backTo l k) ∧ Jx pre W')) := by
  refine callsIn_of_wp Try.func97 rfl hf ?_ hro
  simp only [Try.ntmps97, List.size_toArray, List.length_cons, List.length_nil, Nat.reduceAdd, Nat.reduceSub, Array.replicate_succ, Array.replicate_zero, List.push_toArray, List.append_toArray, List.nil_append, List.cons_append]
  gi_wp2
  gi_loopw [3] (fun i wr => ∃ m k : Nat, m + k = l.length ∧ i = .int .i64 ((m : Int) - 1) ∧ J (backTo l k) wr ∧ BackKp n₀ Bs W wr) (fun i _ => (intOf i + 1).toNat)
  case atStart => exact ⟨l.length, 0, by omega, rfl, h0, BackKp.refl _ _ _⟩
  case round =>
    obtain ⟨m, k, hmk, rfl, hJs, hK⟩ := hrel
    have hb := hK.2 _ hBs
    cases m with
    | zero =>
      obtain rfl : k = l.length := by omega
      have hz : (((0 : Nat) : Int) - 1) = -1 := by omega
      rw [hz]
      gi_wp2
      go_end0
      exact ⟨⟨_, rfl⟩, .inl ⟨_, rfl, hJs⟩⟩
    | succ m =>
      have hi : (((m + 1 : Nat) : Int) - 1) = (m : Int) := by omega
      rw [hi]
      have hlm : m < l.length := by omega
      have hlm' : (m : Int) < (l.length : Int) := by omega
      obtain ⟨bb, oo, rfl, _, hc1, hc2⟩ := Rng.cells_at Rng.z (hl.keep (w' := wr) (S' := (· < n₀)) fun j hj => ⟨hj, hK.1.block j hj⟩) hlm
      obtain ⟨fn, tmps, assign, body, hy, hR⟩ := hY _ ((m : Int), l.getD m Rng.z) wr hJs (by rw [backTo_length]; omega)
      have hnx : backTo l k ++ [((m : Int), l.getD m Rng.z)] = backTo l (k + 1) := by
        rw [backTo, show l.length - 1 - k = m by omega]
      rw [hnx] at hR
      dsimp only at hy hR
      generalize (l.getD m Rng.z).lo = x at *
      generalize (l.getD m Rng.z).hi = y at *
      gi_wp2
      refine hR.mono ?_
      rintro e W3 (⟨rfl, hJ3, hk3⟩ | ⟨rfl, hJx3⟩)
      · gi_wp2
        go_roundw
        case rel => exact ⟨m, k + 1, by omega, by go_num, hJ3, hK.trans hk3⟩
        case measure => simp [intOf]
      · gi_wp2
        refine bodyPost_ret (results_none rfl _ _ _) rfl ?_
        exact ⟨⟨_, rfl⟩, .inr ⟨_, ⟨k + 1, by omega, rfl⟩, hJx3⟩⟩
theorem back_in (F : Fence) (n : Nat) (hf : F.fn 74) (hro : F.round = none) (A : Option Addr) (m c : Nat) (w : World) :
    CallsIn F n Try.prog 74 #[.slice A m c] w fun e w' => e = .returned (.func (.func 97) #[] #[.pointer (some ⟨w.heap.size, 0, none⟩)]) ∧ w' = w.alloc (.cells #[.slice A m c] 39) := by
  refine callsIn_of_wp Try.func74 rfl hf ?_ hro
  simp only [Try.ntmps74, List.size_toArray, List.length_cons, List.length_nil, Nat.reduceAdd, Nat.reduceSub, Array.replicate_succ, Array.replicate_zero, List.push_toArray, List.append_toArray, List.nil_append, List.cons_append]
  gi_wp2
  go_ret
  exact ⟨rfl, rfl⟩
theorem back_stops (F : Fence) (n : Nat) (hf : F.fn 97) (hro : F.round = none) (hn : 1 ≤ n) (Bs n₀ : Nat) (l : List Rng) (A : Option Addr) (c : Nat) (hreach : l.length ≤ 140737488351232) (w : World) (hBs : Bs < w.heap.size) (hn₀ : n₀ ≤ w.heap.size)
    (hc : w.cell? ⟨Bs, 0, none⟩ = some (.slice A l.length c)) (hl : SlRep Rng.rep w (· < n₀) l A c) :
    SeqStopsK F n Try.prog 97 #[.pointer (some ⟨Bs, 0, none⟩)] (fun x : Int × Rng => #[Value.int .i64 x.1, .agg #[.int .i64 x.2.lo, .int .i64 x.2.hi]]) (BackKp n₀ Bs) (fun ys => ys = backTo l l.length)
      (fun pre => ∃ k, k ≤ l.length ∧ pre = backTo l k) l.length w := fun lp J Jx W hW _ _ hY h0 =>
  back1_in F n hf hro hn lp Bs n₀ l A c hreach J Jx hY W ((hW.cell (p := ⟨Bs, 0, none⟩) hBs).trans hc) (hl.keep fun j hj => ⟨hj, hW.block j (Nat.lt_of_lt_of_le hj hn₀)⟩) h0
theorem back_keeps {n₀ Bs : Nat} {w : World} (hn₀ : n₀ ≤ w.heap.size) (W : World) (lp : Nat) (o o' : Obj) (hb : w.heap.size ≤ lp) (ho : W.heap[lp]? = some o) (hc : o.isCells = false) (hw : o.isWalk = false) : BackKp n₀ Bs W (W.putObj lp o') :=
  ⟨belowK_b hn₀ W lp o o' hb ho hc hw, fun v hv => by
    have := cell_kept (W := W) (W' := W.putObj lp o') (row := some lp) hv (grownBy_putObj' W lp o') (fun r e => by cases e; exact ⟨o, ho, hc⟩)
    exact this⟩
end Go.Proofs.Ytdldfllllgogoaa
