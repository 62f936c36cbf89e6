/- A map whose keys are names (rows of bytes), as a function of them: looked up, stored into, deleted from; how many and which keys it has. No condition. -/
import Derived.Test.YtlcjdlnhniemcaaDoorMapV
import Derived.Test.YtlcjdlnhniemcaaDoorStrS
import Derived.Sort.KeysCollected
import Derived.StringKeys
import Derived.Maps.Range
namespace Go.Proofs.YtlcjdlnhniemcaaDoor
open Go.RowKit Go.Maps Go.WideShapes Go.ChangeMaps Go.MapKept Go.WideElems

/-- a map's view told by names -/
def nmap (f : List UInt8 → Option Value) : Lit → Option Value
  | .string l => f l
  | _ => none
theorem nmap_none : (fun _ => none : Lit → Option Value) = nmap (fun _ => none) := by
  funext kl
  cases kl <;> rfl
theorem nmap_put (f : List UInt8 → Option Value) (nm : List UInt8) (v : Value) : mapPut (nmap f) (.string nm) v = nmap (fun x => if x = nm then some v else f x) := by
  funext kl
  unfold mapPut
  by_cases e : kl = .string nm
  · subst e
    rw [if_pos rfl]
    simp [nmap]
  · rw [if_neg e]
    cases kl with
    | string l =>
      have : l ≠ nm := fun h => e (by rw [h])
      simp [nmap, this]
    | _ => rfl
theorem nmap_del (f : List UInt8 → Option Value) (nm : List UInt8) : mapDel (nmap f) (.string nm) = nmap (fun x => if x = nm then none else f x) := by
  funext kl
  unfold mapDel
  by_cases e : kl = .string nm
  · subst e
    rw [if_pos rfl]
    simp [nmap]
  · rw [if_neg e]
    cases kl with
    | string l =>
      have : l ≠ nm := fun h => e (by rw [h])
      simp [nmap, this]
    | _ => rfl
section
variable {P : Program} {k : TypeId} {w : World} {b n : Nat} {f : List UInt8 → Option Value}
theorem keyN (hk : P.underlying k = some .string) {nm : List UInt8} (h : nm.length ≤ maxLen) : keyOf P k (.string (strOf nm)) = some (.string nm) := by
  have h2 := Go.WideMaps.keyOf_string_mk hk (s := strOf nm) (by simpa [strOf, ByteArray.size] using h)
  rw [h2]
  simp [strOf]
/-- the keys of such a map -/
theorem MapV.keysN (h : MapV w P k b n (nmap f)) (hk : P.underlying k = some .string) {ks : List (List UInt8)} (hn : ks.Nodup) (hf : ∀ x, x ∈ ks ↔ f x ≠ none) (hmax : ∀ x ∈ ks, x.length ≤ maxLen) :
    ∃ D : DataW Value, w.ownsMap P k selfElem b n D ∧ Maps.size D = ks.length ∧ (Go.strKeys D).Perm ks := by
  obtain ⟨D, h1, h2, h3⟩ := h
  have h1' := h1
  obtain ⟨es, clock, hb, F, hs, hD⟩ := h1'
  have K : Keyed P k := string_keyed hk
  have hap := fit_apart K F
  have hke := fit_keys F
  have hpm := sorted_perm (es.toList.map (rg P k selfElem))
  generalize es.toList.map (rg P k selfElem) = E at hap hke hpm hD
  generalize E.foldr DataW.insert [] = ES at hpm hD
  have hapS : ES.Pairwise (fun p q => p.1 ≠ q.1) := (hpm.pairwise_iff (fun {a b} (h : a.1 ≠ b.1) => h.symm)).2 hap
  have hkS : ∀ p ∈ ES, ∃ x : List UInt8, p.1 = .string x ∧ x.length ≤ maxLen ∧ WideAt.IsKeyLit p.1 := fun p hp => by
    obtain ⟨v, hv⟩ := hke p (hpm.mem_iff.1 hp)
    obtain ⟨x, _, h4, h5⟩ := Go.Maps.keyOf_str hk hv
    exact ⟨x, h4, h5, K.key hv⟩
  subst hD
  have hks : Go.strKeys (DataW.map ES) = ES.map fun p => Go.strOf p.1 := rfl
  have hnod : (Go.strKeys (DataW.map ES)).Nodup := by
    rw [hks]
    refine List.pairwise_map.2 (hapS.imp_of_mem fun {p q} hp hq hne e => hne ?_)
    obtain ⟨x, hx, _⟩ := hkS p hp
    obtain ⟨y, hy, _⟩ := hkS q hq
    rw [hx, hy] at e ⊢
    rw [show x = y from e]
  have hmem : ∀ x, x ∈ Go.strKeys (DataW.map ES) ↔ x ∈ ks := fun x => by
    rw [hks, List.mem_map]
    constructor
    · rintro ⟨p, hp, hpx⟩
      obtain ⟨y, hy, hyl, hyk⟩ := hkS p hp
      rw [hy] at hpx
      have hyx : y = x := hpx
      subst hyx
      refine (hf y).2 fun hn0 => ?_
      have hno : Maps.has (DataW.map ES) (.string y) = false := has_false_of_atKey fun z => by
        rw [h3 _ (by rw [← hy]; exact hyk) z]
        show viewOf (f y) z = z
        rw [hn0]
        rfl
      have : Maps.has (DataW.map ES) (.string y) = true := by
        rw [has_eq]
        refine List.any_eq_true.2 ⟨p, hp, ?_⟩
        rw [hy]
        simp [Lit.sameKey]
      rw [hno] at this
      cases this
    · intro hx
      have hfx := (hf x).1 hx
      have hkl : WideAt.IsKeyLit (.string x) := K.key (keyN hk (hmax x hx))
      have hh : Maps.has (DataW.map ES) (.string x) = true := by
        cases e : Maps.has (DataW.map ES) (.string x) with
        | true => rfl
        | false =>
          have h5 := atKey_of_not_has e .nil
          rw [h3 _ hkl] at h5
          change viewOf (f x) .nil = .nil at h5
          cases hfe : f x with
          | none => exact absurd hfe hfx
          | some u => rw [hfe] at h5; simp [viewOf] at h5
      rw [has_eq] at hh
      obtain ⟨p, hp, hpk⟩ := List.any_eq_true.1 hh
      obtain ⟨y, hy, _⟩ := hkS p hp
      refine ⟨p, hp, ?_⟩
      rw [hy] at hpk ⊢
      simp [Lit.sameKey] at hpk
      exact hpk
  have hperm : (Go.strKeys (DataW.map ES)).Perm ks := (List.perm_ext_iff_of_nodup hnod hn).2 hmem
  refine ⟨_, h1, ?_, hperm⟩
  rw [size_eq, ← hperm.length_eq, hks, List.length_map]
end
end Go.Proofs.YtlcjdlnhniemcaaDoor
