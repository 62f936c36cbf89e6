/- Ranges: slices of ranges, owned and read; equal lists of ranges. No condition. -/
import Derived.Test.YtdldfllllgogoaaOwn2
import Derived.LoopTactic
import Derived.Deep.QuietTactic
import Derived.BigQuiet
namespace Go.Proofs.Ytdldfllllgogoaa
open Go.RowKit

def Rng.z : Rng := ⟨0, 0⟩
theorem elemRng : ElemT Try.prog 39 78 2 16 := ElemT.of Try.underlying39 (z := .agg #[.int .i64 0, .int .i64 0]) (by kernel_rfl) rfl (by decide)
theorem Own.rng {w : World} {base : Nat} {e : TypeId} {A : Option Addr} {n c : Nat} {l : List Rng} (h : Own w base e 2 A n c (l.flatMap Rng.cells)) : n = l.length ∧ SlRep Rng.rep w (fun k => base ≤ k ∧ k < w.heap.size) l A c :=
  Own.flat Rng.cells rfl (fun S a => Rng.enc w S a) (by decide) h
theorem SlRep.wide {α : Type} {R : Rep α} {w : World} {S : Nat → Prop} {l : List α} {A : Option Addr} {c base : Nat} (h : SlRep R w (fun k => base ≤ k ∧ k < w.heap.size) l A c) (hS : ∀ k, k < w.heap.size → S k) : SlRep R w S l A c :=
  h.keep fun k hk => ⟨hS k hk.2, rfl⟩

theorem sl_nil {α : Type} (R : Rep α) (w : World) (S : Nat → Prop) : SlRep R w S [] none 0 := ⟨by simp, by simp, .inl rfl⟩

set_option maxHeartbeats 400000 in
theorem law_sameRanges (l : List Rng) (A A' : Option Addr) (c c' : Nat) (S S' : Nat → Prop) (w : World) (hl : SlRep Rng.rep w S l A c) (hl' : SlRep Rng.rep w S' l A' c') (hn : l.length ≤ 9223372036854775807) :
    Calls Try.prog 12 #[.slice A l.length c, .slice A' l.length c'] w fun e w' => e = .returned (.bool true) ∧ Below w.heap.size w w' := by
  have HL := Lib.hid hl
  have HL' := Lib.hid hl'
  clear hl hl'
  go_enter Try.func12, Try.ntmps12
  go_wp2
  go_loopw [5] (fun i wr => ∃ k m : Nat, k ≤ l.length ∧ i = .int .i64 k ∧ wr = w.drewN m) (fun i _ => l.length - (intOf i).toNat)
  case atStart => exact ⟨0, 0, by omega, rfl, rfl⟩
  case round =>
    obtain ⟨k, m, hk, rfl, rfl⟩ := hrel
    by_cases hlt : k < l.length
    · obtain ⟨b, o, rfl, _, hc1, hc2⟩ := Rng.cells_at Rng.z HL.out hlt
      obtain ⟨b', o', rfl, _, hd1, hd2⟩ := Rng.cells_at Rng.z HL'.out hlt
      have hlt' : (k : Int) < (l.length : Int) := by omega
      generalize (l.getD k Rng.z).lo = x at *
      generalize (l.getD k Rng.z).hi = y at *
      go_wp2
      go_quiet (fail)
      go_wp2
      go_roundw
      case rel => exact ⟨k + 1, _, by omega, by go_num, rfl⟩
      case measure => simp [intOf]; omega
    · go_wp2
      go_ret
      exact ⟨rfl, (by repeat (first | (with_reducible exact Below.refl _ _) | (with_reducible assumption) | (with_reducible refine bset ?_ ?_ _) | (with_reducible refine balloc ?_ _) | (with_reducible refine Below.drew ?_) | (with_reducible refine bdrewN ?_ _) | (with_reducible refine bnext ?_ (by with_reducible assumption)) | exact Nat.le_refl _ | (simp; done) | omega | (simp; omega)))⟩
end Go.Proofs.Ytdldfllllgogoaa
