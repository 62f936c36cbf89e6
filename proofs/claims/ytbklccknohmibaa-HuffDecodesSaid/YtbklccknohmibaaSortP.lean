/- A stable sort by a key: plain words. No condition. -/
import Derived.Test.YtbklccknohmibaaTypes
namespace Go.Proofs.Ytbklccknohmibaa.so

/-- the order of a stable sort of rising numbers: by the key, then by the number -/
def lx (key : Int → Int) (a b : Int) : Prop := key a < key b ∨ (key a = key b ∧ a < b)
section
variable {key : Int → Int}
theorem lx.trans {a b c : Int} (h : lx key a b) (k : lx key b c) : lx key a c := by unfold lx at *; omega
theorem lx.irrefl {a : Int} : ¬ lx key a a := by unfold lx; omega
theorem lx.asymm {a b : Int} (h : lx key a b) : ¬ lx key b a := by unfold lx at *; omega
theorem lx.le {a b : Int} (h : lx key a b) : key a ≤ key b := by unfold lx at h; omega
theorem lx.of_le {a b : Int} (h : key a ≤ key b) (hab : a < b) : lx key a b := by unfold lx; omega
theorem lx.of_lt {a b : Int} (h : key a < key b) : lx key a b := .inl h
abbrev Srt (key : Int → Int) (l : List Int) : Prop := l.Pairwise (lx key)
/-- a sorted list is the only one of its elements -/
theorem Srt.unique : ∀ {l m : List Int}, Srt key l → Srt key m → l.Perm m → l = m
  | [], m, _, _, h => (List.Perm.eq_nil h.symm).symm
  | x :: l, [], _, _, h => absurd h.length_eq (by simp)
  | x :: l, y :: m, hl, hm, h => by
    obtain ⟨h1, h2⟩ := List.pairwise_cons.1 hl
    obtain ⟨k1, k2⟩ := List.pairwise_cons.1 hm
    have hxy : x = y := by
      have hx : x ∈ y :: m := h.mem_iff.1 (by simp)
      have hy : y ∈ x :: l := h.mem_iff.2 (by simp)
      rcases List.mem_cons.1 hx with e | hx
      · exact e
      · rcases List.mem_cons.1 hy with e | hy
        · exact e.symm
        · exact absurd (h1 y hy) (k1 x hx).asymm
    subst hxy
    rw [Srt.unique h2 k2 ((List.perm_cons x).1 h)]
/-- one element laid among sorted ones -/
theorem Srt.insert {l : List Int} {x : Int} {t : Nat} (h : Srt key l) (h1 : ∀ y ∈ l.take t, lx key y x) (h2 : ∀ y ∈ l.drop t, lx key x y) : Srt key (l.take t ++ x :: l.drop t) := by
  have hs : Srt key (l.take t ++ l.drop t) := by rw [List.take_append_drop]; exact h
  obtain ⟨a, b, c⟩ := List.pairwise_append.1 hs
  refine List.pairwise_append.2 ⟨a, List.pairwise_cons.2 ⟨h2, b⟩, fun y hy z hz => ?_⟩
  rcases List.mem_cons.1 hz with rfl | hz
  · exact h1 y hy
  · exact c y hy z hz
theorem Srt.at {l : List Int} (h : Srt key l) {i j : Nat} (hij : i < j) (hj : j < l.length) : lx key (l.getD i 0) (l.getD j 0) := by
  have := List.pairwise_iff_getElem.1 h i j (by omega) hj hij
  simpa [List.getD_eq_getElem?_getD, List.getElem?_eq_getElem hj, List.getElem?_eq_getElem (show i < l.length by omega)] using this
theorem mem_take_at {l : List Int} {t : Nat} {y : Int} (h : y ∈ l.take t) : ∃ i, i < t ∧ i < l.length ∧ l.getD i 0 = y := by
  obtain ⟨i, hi, e⟩ := List.mem_iff_getElem.1 h
  rw [List.length_take] at hi
  refine ⟨i, by omega, by omega, ?_⟩
  rw [List.getElem_take] at e
  rw [List.getD_eq_getElem?_getD, List.getElem?_eq_getElem (by omega)]
  exact e
theorem mem_drop_at {l : List Int} {t : Nat} {y : Int} (h : y ∈ l.drop t) : ∃ i, t ≤ i ∧ i < l.length ∧ l.getD i 0 = y := by
  obtain ⟨i, hi, e⟩ := List.mem_iff_getElem.1 h
  rw [List.length_drop] at hi
  refine ⟨t + i, by omega, by omega, ?_⟩
  rw [List.getElem_drop] at e
  rw [List.getD_eq_getElem?_getD, List.getElem?_eq_getElem (by omega)]
  exact e
theorem insert_perm (l : List Int) (x : Int) (t : Nat) : (l.take t ++ x :: l.drop t).Perm (x :: l) := by
  have h := List.perm_middle (a := x) (l₁ := l.take t) (l₂ := l.drop t)
  rwa [List.take_append_drop] at h
/-- both halves, merged by the two middle cuts -/
theorem Srt.merge {L1 L2 R1 R2 M1 M2 : List Int} (hL : Srt key (L1 ++ L2)) (hR : Srt key (R1 ++ R2)) (h12 : ∀ x ∈ L1, ∀ y ∈ R2, lx key x y) (h21 : ∀ x ∈ R1, ∀ y ∈ L2, lx key x y)
    (p1 : M1.Perm (L1 ++ R1)) (p2 : M2.Perm (L2 ++ R2)) (s1 : Srt key M1) (s2 : Srt key M2) : Srt key (M1 ++ M2) := by
  obtain ⟨_, _, hl⟩ := List.pairwise_append.1 hL
  obtain ⟨_, _, hr⟩ := List.pairwise_append.1 hR
  refine List.pairwise_append.2 ⟨s1, s2, fun x hx y hy => ?_⟩
  rcases List.mem_append.1 (p1.mem_iff.1 hx) with hx | hx <;> rcases List.mem_append.1 (p2.mem_iff.1 hy) with hy | hy
  · exact hl x hx y hy
  · exact h12 x hx y hy
  · exact h21 x hx y hy
  · exact hr x hx y hy
theorem merge_perm {L1 L2 R1 R2 M1 M2 : List Int} (p1 : M1.Perm (L1 ++ R1)) (p2 : M2.Perm (L2 ++ R2)) : (M1 ++ M2).Perm ((L1 ++ L2) ++ (R1 ++ R2)) := by
  refine (p1.append p2).trans ?_
  simp only [List.append_assoc]
  refine List.Perm.append_left _ ?_
  rw [← List.append_assoc, ← List.append_assoc]
  exact List.Perm.append_right _ List.perm_append_comm
end
end Go.Proofs.Ytbklccknohmibaa.so
