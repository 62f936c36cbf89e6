/- Package huff: the keys of Decode's map. No condition. -/
import Derived.Test.YtkbmpppendelcaaHuff3
import Derived.Test.YtkbmpppendelcaaPrA
import Derived.Test.YtkbmpppendelcaaMapR
import Derived.DeepKeys4
import Derived.RegionTactic
import Derived.BigRegion
import Derived.Deep.CutBlock
namespace Go.Proofs.Ytkbmpppendelcaa
open Go.RowKit Go.Maps Go.WideShapes Go.ChangeMaps Go.MapKept
set_option linter.unusedSimpArgs false

namespace hf
theorem laid : laidOutB Try.prog = true := by kernel_rfl
theorem rowK : (64 : TypeId) < Try.prog.types.size := of_decide_eq_true (by kernel_rfl)
theorem klaw : WideMaps.KeyLaw Try.prog 64 := deep_law_laid laid (m := 2) (by omega) rowK (by kernel_rfl) (by rw [Try.underlying64])
theorem keyed : Keyed Try.prog 64 := Keyed.of_law klaw
theorem keyT : Try.prog.keyType 64 = true := by kernel_rfl
theorem one_up {n k : Nat} (h : k < n) : ∃ m, n = m + 1 := ⟨n - 1, by omega⟩
theorem tsz : ∃ m, Try.prog.types.size = m + 1 := one_up rowK
theorem oneI : Try.prog.cellsOf 3 = 1 := by kernel_rfl
theorem cells2 : Try.prog.cellsOf 64 = 2 := by kernel_rfl
theorem zeroIs (u : World) : (zeroValue 3).run Try.prog u = .ok (.int .i64 0) u := by kernel_rfl
def keyV (n c : Int) : Value := .agg #[.int .i64 n, .int .i64 c]
theorem keyV_inj {n c n' c' : Int} : keyV n c = keyV n' c' ↔ n = n' ∧ c = c' := by unfold keyV; simp
theorem keyOf_val {n c : Int} (hn : IntOk n) (hc : IntOk c) : ∃ kl, keyOf Try.prog 64 (keyV n c) = some kl := by
  obtain ⟨m, hm⟩ := tsz
  unfold keyOf keyV
  simp only [Try.underlying64]
  rw [if_pos (by simp [keyT, Value.formed, Try.underlying64, cells2]), hm]
  unfold Program.keyLits
  simp only [Try.underlying64, Value.cells]
  have hw1 : (Lit.int .i64 n).wf = true := wf_i64 hn
  have hw2 : (Lit.int .i64 c).wf = true := wf_i64 hc
  rw [if_pos (by rw [cells2]; exact ⟨rfl, by simp⟩)]
  simp [oneI, Program.keyLits, Try.underlying3, hw1, hw2]
open Classical in
/-- the map of the symbols below k: a key tells its symbol -/
noncomputable def pick (p : Nat → Prop) : Option Value := if h : ∃ s : Nat, p s then some (.int .i64 (h.choose : Int)) else none
noncomputable def symF (l : List Int) (k : Nat) (v : Value) : Option Value := pick fun s => s < k ∧ 0 < l.getD s 0 ∧ v = keyV (l.getD s 0) (codeOf l s)
theorem key_one {l : List Int} (hft : fits l) {s t : Nat} (hs : s < l.length) (ht : t < l.length) (h1 : 0 < l.getD s 0) (h2 : 0 < l.getD t 0) (h : keyV (l.getD s 0) (codeOf l s) = keyV (l.getD t 0) (codeOf l t)) : s = t := by
  obtain ⟨e1, e2⟩ := keyV_inj.1 h
  have := prefix_free hft (mem_syms.2 ⟨s, hs, h1, rfl⟩) (mem_syms.2 ⟨t, ht, h2, rfl⟩) (by rw [len_nat, len_nat, e1]; exact Int.le_refl _) (by rw [len_nat, len_nat, e1, Int.sub_self, e2]; simp)
  omega
theorem symF_at {l : List Int} (hft : fits l) {k s : Nat} (hk : k ≤ l.length) (hs : s < k) (h1 : 0 < l.getD s 0) : symF l k (keyV (l.getD s 0) (codeOf l s)) = some (.int .i64 (s : Int)) := by
  have hx : ∃ t : Nat, t < k ∧ 0 < l.getD t 0 ∧ keyV (l.getD s 0) (codeOf l s) = keyV (l.getD t 0) (codeOf l t) := ⟨s, hs, h1, rfl⟩
  unfold symF pick
  rw [dif_pos hx]
  obtain ⟨a1, a2, a3⟩ := hx.choose_spec
  rw [← key_one hft (by omega) (by omega) h1 a2 a3]
theorem symF_some {l : List Int} {k : Nat} {v u : Value} (h : symF l k v = some u) : ∃ s : Nat, s < k ∧ 0 < l.getD s 0 ∧ v = keyV (l.getD s 0) (codeOf l s) ∧ u = .int .i64 (s : Int) := by
  unfold symF pick at h
  split at h
  · next hx =>
    obtain ⟨a1, a2, a3⟩ := hx.choose_spec
    exact ⟨_, a1, a2, a3, by cases h; rfl⟩
  · cases h
theorem symF_none {l : List Int} {k : Nat} {v : Value} (h : ∀ s : Nat, s < k → 0 < l.getD s 0 → v ≠ keyV (l.getD s 0) (codeOf l s)) : symF l k v = none := by
  unfold symF pick
  rw [dif_neg (fun ⟨s, a1, a2, a3⟩ => h s a1 a2 a3)]
open Classical in
theorem symF_succ {l : List Int} (hft : fits l) {k : Nat} (hk : k < l.length) (h1 : 0 < l.getD k 0) : symF l (k + 1) = fun y => if y = keyV (l.getD k 0) (codeOf l k) then some (.int .i64 (k : Int)) else symF l k y := by
  funext y
  by_cases e : y = keyV (l.getD k 0) (codeOf l k)
  · rw [if_pos e, e, symF_at hft (by omega) (by omega) h1]
  · rw [if_neg e]
    cases h : symF l k y with
    | some u =>
      obtain ⟨s, a1, a2, rfl, rfl⟩ := symF_some h
      rw [symF_at hft (by omega) (by omega) a2]
    | none =>
      refine symF_none fun s hs a2 a3 => ?_
      by_cases e2 : s = k
      · subst e2; exact e a3
      · rw [a3, symF_at hft (by omega) (by omega) a2] at h
        cases h
theorem symF_same {l : List Int} {k : Nat} (h1 : ¬ 0 < l.getD k 0) : symF l (k + 1) = symF l k := by
  funext y
  unfold symF
  congr 1
  funext s
  apply propext
  constructor
  · rintro ⟨a1, a2, a3⟩
    refine ⟨?_, a2, a3⟩
    by_cases e2 : s = k
    · subst e2; exact absurd a2 h1
    · omega
  · rintro ⟨a1, a2, a3⟩; exact ⟨by omega, a2, a3⟩
theorem symF_zero (l : List Int) : symF l 0 = fun _ => none := by
  funext y
  exact symF_none fun s hs => by omega
noncomputable def symM (l : List Int) (k : Nat) : Lit → Option Value := mapS Try.prog 64 (symF l k)
end hf
end Go.Proofs.Ytkbmpppendelcaa
