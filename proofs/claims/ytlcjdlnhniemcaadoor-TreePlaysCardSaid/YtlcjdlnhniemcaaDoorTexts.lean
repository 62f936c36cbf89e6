/- Slices of strings: what they read as; equal ones. No condition. -/
import Derived.Test.YtlcjdlnhniemcaaDoorMgA
import Derived.LoopTactic
import Derived.Deep.QuietTactic
import Derived.BigQuiet
namespace Go.Proofs.YtlcjdlnhniemcaaDoor
open Go.RowKit

theorem str_at {w : World} {S : Nat → Prop} {l : List ByteArray} {A : Option Addr} {c k : Nat} (h : SlRep Rep.str w S l A c) (hk : k < l.length) :
    ∃ b o, A = some ⟨b, o, none⟩ ∧ S b ∧ w.cell? ⟨b, o + k, none⟩ = some (.string (l.getD k .empty)) := by
  rcases h.2.2 with rfl | ⟨b, o, rfl, hb, hr⟩
  · simp at hk
  · obtain ⟨cs, hcs, hc⟩ := hr k (l.getD k .empty) (by rw [List.getD_eq_getElem?_getD, List.getElem?_eq_getElem hk]; rfl)
    subst hcs
    have := hc 0 _ rfl
    exact ⟨b, o, rfl, hb, by simpa [Rep.str] using this⟩
theorem elemStr : ElemT Tryd.prog 29 9 1 16 := ElemT.of Tryd.underlying29 (z := .string .empty) (by kernel_rfl) rfl (by decide)
theorem Own.strs {w : World} {base : Nat} {e : TypeId} {A : Option Addr} {n c : Nat} {l : List ByteArray} (h : Own w base e 1 A n c (l.map Value.string)) : n = l.length ∧ SlRep Rep.str w (fun k => base ≤ k ∧ k < w.heap.size) l A c := by
  have h1 : l.flatMap (fun s => [Value.string s]) = l.map Value.string := by
    clear h
    induction l with
    | nil => rfl
    | cons a r ih => simp only [List.flatMap_cons, ih, List.map_cons, List.singleton_append]
  exact Own.flat (R := Rep.str) (fun s => [Value.string s]) rfl (fun _ _ => rfl) (by decide) (by rw [h1]; exact h)

set_option maxHeartbeats 400000 in
theorem law_sameTexts_q (l : List ByteArray) (A A' : Option Addr) (c c' : Nat) (S S' : Nat → Prop) (w : World) (hl : SlRep Rep.str w S l A c) (hl' : SlRep Rep.str w S' l A' c') (hn : l.length ≤ 9223372036854775807) :
    Calls Tryd.prog 12 #[.slice A l.length c, .slice A' l.length c'] w fun e w' => e = .returned (.bool true) ∧ ∃ m, w' = w.drewN m := by
  have HL := Lib.hid hl
  have HL' := Lib.hid hl'
  clear hl hl'
  go_enter Tryd.func12, Tryd.ntmps12
  go_wp2
  go_loopw [5] (fun i wr => ∃ k m : Nat, k ≤ l.length ∧ i = .int .i64 k ∧ wr = w.drewN m) (fun i _ => l.length - (intOf i).toNat)
  case atStart => exact ⟨0, 0, by omega, rfl, rfl⟩
  case round =>
    obtain ⟨k, m, hk, rfl, rfl⟩ := hrel
    by_cases hlt : k < l.length
    · obtain ⟨b, o, rfl, _, hc1⟩ := str_at HL.out hlt
      obtain ⟨b', o', rfl, _, hc2⟩ := str_at HL'.out hlt
      have hlt' : (k : Int) < (l.length : Int) := by omega
      generalize l.getD k .empty = x at *
      go_wp2
      go_quiet (fail)
      go_wp2
      go_roundw
      case rel => exact ⟨k + 1, _, by omega, by go_num, rfl⟩
      case measure => simp [intOf]; omega
    · go_wp2
      go_ret
      exact ⟨rfl, m, rfl⟩
theorem law_sameTexts (l : List ByteArray) (A A' : Option Addr) (c c' : Nat) (S S' : Nat → Prop) (w : World) (hl : SlRep Rep.str w S l A c) (hl' : SlRep Rep.str w S' l A' c') (hn : l.length ≤ 9223372036854775807) :
    Calls Tryd.prog 12 #[.slice A l.length c, .slice A' l.length c'] w fun e w' => e = .returned (.bool true) ∧ Below w.heap.size w w' :=
  (law_sameTexts_q l A A' c c' S S' w hl hl' hn).mono fun e w' ⟨he, m, hw⟩ => ⟨he, by rw [hw]; exact bdrewN (bself w) m⟩
end Go.Proofs.YtlcjdlnhniemcaaDoor
