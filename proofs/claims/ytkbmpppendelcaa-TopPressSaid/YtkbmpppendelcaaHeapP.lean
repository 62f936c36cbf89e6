/- The plain law of a heap in a list: down, up. No condition. -/
import Derived.Test.YtkbmpppendelcaaLib
namespace Go.Proofs.Ytkbmpppendelcaa.hp

variable {α : Type} (key : α → Int) (z : α)

/-- two elements change places -/
def swap (l : List α) (i j : Nat) : List α := (l.set i (l.getD j z)).set j (l.getD i z)
/-- the key at a place -/
def K (l : List α) (k : Nat) : Int := key (l.getD k z)
theorem swap_length (l : List α) (i j : Nat) : (swap z l i j).length = l.length := by unfold swap; rw [List.length_set, List.length_set]
theorem getD_set {l : List α} {i k : Nat} {x : α} (hi : i < l.length) : (l.set i x).getD k z = if k = i then x else l.getD k z := by
  rw [List.getD_eq_getElem?_getD, List.getD_eq_getElem?_getD]
  by_cases h : k = i
  · subst h
    rw [if_pos rfl, List.getElem?_set_self hi]
    rfl
  · rw [if_neg h, List.getElem?_set_ne (fun e => h e.symm)]
theorem swap_getD {l : List α} {i j : Nat} (hi : i < l.length) (hj : j < l.length) (k : Nat) : (swap z l i j).getD k z = if k = j then l.getD i z else if k = i then l.getD j z else l.getD k z := by
  unfold swap
  rw [getD_set z (by rw [List.length_set]; exact hj), getD_set z hi]
theorem swap_K {l : List α} {i j : Nat} (hi : i < l.length) (hj : j < l.length) (k : Nat) : K key z (swap z l i j) k = if k = j then K key z l i else if k = i then K key z l j else K key z l k := by
  unfold K
  rw [swap_getD z hi hj]
  split
  · rfl
  · split <;> rfl
theorem set_perm : ∀ {l : List α} {i : Nat} (x : α), i < l.length → (x :: l).Perm (l.getD i z :: l.set i x)
  | [], i, x, h => by simp at h
  | y :: l, 0, x, _ => List.Perm.swap y x l
  | y :: l, i + 1, x, h => by
    have ih := set_perm (i := i) x (l := l) (by simpa using h)
    have e : (y :: l).getD (i + 1) z = l.getD i z := rfl
    rw [e, List.set_cons_succ]
    exact ((List.Perm.swap y x l).trans (ih.cons y)).trans (List.Perm.swap _ y _)
theorem swap_perm {l : List α} {i j : Nat} (hi : i < l.length) (hj : j < l.length) : (swap z l i j).Perm l := by
  unfold swap
  have h1 := set_perm z (l.getD j z) hi
  have h2 := set_perm z (l := l.set i (l.getD j z)) (i := j) (l.getD i z) (by rw [List.length_set]; exact hj)
  have e : (l.set i (l.getD j z)).getD j z = l.getD j z := by
    rw [getD_set z hi]
    split <;> simp_all
  rw [e] at h2
  exact ((h1.trans h2).cons_inv).symm
/-- the lesser child of two -/
def child (l : List α) (n i : Nat) : Nat := if 2 * i + 2 < n ∧ K key z l (2 * i + 2) < K key z l (2 * i + 1) then 2 * i + 2 else 2 * i + 1
theorem child_gt (l : List α) (n i : Nat) : i < child key z l n i := by unfold child; split <;> omega
theorem child_lt {l : List α} {n i : Nat} (h : 2 * i + 1 < n) : child key z l n i < n := by unfold child; split <;> omega
/-- an element sinks -/
def down (l : List α) (n i : Nat) : List α :=
  if h : 2 * i + 1 < n then
    if K key z l (child key z l n i) < K key z l i then down (swap z l i (child key z l n i)) n (child key z l n i) else l
  else l
termination_by n - i
decreasing_by have := child_gt key z l n i; omega
/-- an element rises -/
def up (l : List α) (j : Nat) : List α :=
  if h : 0 < j then
    if K key z l j < K key z l ((j - 1) / 2) then up (swap z l ((j - 1) / 2) j) ((j - 1) / 2) else l
  else l
termination_by j
decreasing_by omega
/-- from a place on each parent is no greater than its children -/
def Hp (l : List α) (n lo : Nat) : Prop := ∀ k, 0 < k → k < n → lo ≤ (k - 1) / 2 → K key z l ((k - 1) / 2) ≤ K key z l k
/-- the same but at one parent; its children are no less than its own parent -/
structure HpD (l : List α) (n lo i : Nat) : Prop where
  at_ : ∀ k, 0 < k → k < n → lo ≤ (k - 1) / 2 → (k - 1) / 2 ≠ i → K key z l ((k - 1) / 2) ≤ K key z l k
  up_ : ∀ k, 0 < k → k < n → (k - 1) / 2 = i → 0 < i → lo ≤ (i - 1) / 2 → K key z l ((i - 1) / 2) ≤ K key z l k
theorem down_spec (l : List α) (n lo i : Nat) (hl : n ≤ l.length) (hi : lo ≤ i) (h : HpD key z l n lo i) :
    Hp key z (down key z l n i) n lo ∧ (down key z l n i).Perm l ∧ ∀ k, n ≤ k → (down key z l n i).getD k z = l.getD k z := by
  rw [down]
  split
  · next hc =>
    have hcl := child_lt key z (l := l) hc
    have hcg := child_gt key z l n i
    have hmin : ∀ k, 0 < k → k < n → (k - 1) / 2 = i → K key z l (child key z l n i) ≤ K key z l k := fun k h0 hk he => by
      have hk2 : k = 2 * i + 1 ∨ k = 2 * i + 2 := by omega
      unfold child
      rcases hk2 with rfl | rfl
      · split <;> omega
      · split
        · omega
        · next hn => have : ¬ (K key z l (2 * i + 2) < K key z l (2 * i + 1)) := fun e => hn ⟨hk, e⟩; omega
    have hpar : (child key z l n i - 1) / 2 = i := by unfold child; split <;> omega
    generalize child key z l n i = j at *
    split
    · next hlt =>
      have hil : i < l.length := by omega
      have hjl : j < l.length := by omega
      have ih := down_spec (swap z l i j) n lo j (by rw [swap_length]; exact hl) (by omega) (by
        constructor
        · intro k h0 hk hlo hne
          rw [swap_K key z hil hjl, swap_K key z hil hjl]
          by_cases hpi : (k - 1) / 2 = i
          · rw [if_neg (by omega), if_pos hpi]
            by_cases hkj : k = j
            · rw [if_pos hkj]; omega
            · rw [if_neg hkj, if_neg (by omega)]
              exact hmin k h0 hk hpi
          · rw [if_neg hne, if_neg hpi]
            by_cases hkj : k = j
            · exact absurd (hkj ▸ hpar) hpi
            · rw [if_neg hkj]
              by_cases hki : k = i
              · rw [if_pos hki]
                subst hki
                exact h.up_ j (by omega) hcl hpar h0 hlo
              · rw [if_neg hki]
                exact h.at_ k h0 hk hlo hpi
        · intro k h0 hk he hj0 hlo
          rw [swap_K key z hil hjl, swap_K key z hil hjl, hpar, if_neg (by omega), if_pos rfl, if_neg (by omega), if_neg (by omega)]
          have := h.at_ k h0 hk (by omega) (by omega)
          rw [he] at this
          exact this)
      refine ⟨ih.1, ih.2.1.trans (swap_perm z hil hjl), fun k hk => (ih.2.2 k hk).trans ?_⟩
      rw [swap_getD z hil hjl, if_neg (by omega), if_neg (by omega)]
    · next hge =>
      refine ⟨fun k h0 hk hlo => ?_, List.Perm.refl _, fun _ _ => rfl⟩
      by_cases hpi : (k - 1) / 2 = i
      · rw [hpi]
        have := hmin k h0 hk hpi
        omega
      · exact h.at_ k h0 hk hlo hpi
  · next hc =>
    refine ⟨fun k h0 hk hlo => h.at_ k h0 hk hlo (by omega), List.Perm.refl _, fun _ _ => rfl⟩
termination_by n - i
theorem down_length (l : List α) (n i : Nat) : (down key z l n i).length = l.length := by
  rw [down]
  split
  · split
    · rw [down_length, swap_length]
    · rfl
  · rfl
termination_by n - i
decreasing_by have := child_gt key z l n i; omega
/-- all is in order but at one child; its children are no less than its parent -/
structure HpU (l : List α) (n j : Nat) : Prop where
  at_ : ∀ k, 0 < k → k < n → k ≠ j → K key z l ((k - 1) / 2) ≤ K key z l k
  dn_ : ∀ k, 0 < k → k < n → (k - 1) / 2 = j → 0 < j → K key z l ((j - 1) / 2) ≤ K key z l k
theorem up_spec (l : List α) (n j : Nat) (hl : n ≤ l.length) (hj : j < n) (h : HpU key z l n j) :
    Hp key z (up key z l j) n 0 ∧ (up key z l j).Perm l := by
  rw [up]
  split
  · next h0j =>
    split
    · next hlt =>
      have hil : (j - 1) / 2 < l.length := by omega
      have hjl : j < l.length := by omega
      have ih := up_spec (swap z l ((j - 1) / 2) j) n ((j - 1) / 2) (by rw [swap_length]; exact hl) (by omega) (by
        constructor
        · intro k h0 hk hne
          rw [swap_K key z hil hjl, swap_K key z hil hjl]
          by_cases hkj : k = j
          · subst hkj
            rw [if_neg (by omega), if_pos rfl, if_pos rfl]
            omega
          · rw [if_neg hkj, if_neg hne]
            by_cases hpj : (k - 1) / 2 = j
            · rw [if_pos hpj]
              exact h.dn_ k h0 hk hpj h0j
            · rw [if_neg hpj]
              by_cases hpp : (k - 1) / 2 = (j - 1) / 2
              · rw [if_pos hpp]
                have := h.at_ k h0 hk hkj
                rw [hpp] at this
                omega
              · rw [if_neg hpp]
                exact h.at_ k h0 hk hkj
        · intro k h0 hk he hj0
          rw [swap_K key z hil hjl, swap_K key z hil hjl, if_neg (by omega), if_neg (by omega)]
          have hp := h.at_ ((j - 1) / 2) hj0 (by omega) (by omega)
          by_cases hkj : k = j
          · rw [if_pos hkj]
            exact hp
          · rw [if_neg hkj, if_neg (by omega)]
            have := h.at_ k h0 hk hkj
            rw [he] at this
            omega)
      exact ⟨ih.1, ih.2.trans (swap_perm z hil hjl)⟩
    · next hge =>
      refine ⟨fun k h0 hk _ => ?_, List.Perm.refl _⟩
      by_cases hkj : k = j
      · subst hkj; omega
      · exact h.at_ k h0 hk hkj
  · next h0j => exact ⟨fun k h0 hk _ => h.at_ k h0 hk (by omega), List.Perm.refl _⟩
termination_by j
theorem up_length (l : List α) (j : Nat) : (up key z l j).length = l.length := by
  rw [up]
  split
  · split
    · rw [up_length, swap_length]
    · rfl
  · rfl
termination_by j
decreasing_by omega
/-- the first is the least -/
theorem Hp.least {l : List α} {n : Nat} (h : Hp key z l n 0) : ∀ (k : Nat), k < n → K key z l 0 ≤ K key z l k
  | 0, _ => Int.le_refl _
  | k + 1, hk => by
    have h1 := h (k + 1) (by omega) hk (Nat.zero_le _)
    have h2 := Hp.least h ((k + 1 - 1) / 2) (by omega)
    omega
termination_by k => k
/-- all parents from the last to the first sink -/
def init (l : List α) : Nat → List α → List α
  | 0, m => m
  | i + 1, m => init l i (down key z m l.length i)
theorem init_spec (l : List α) : ∀ (i : Nat) (m : List α), m.length = l.length → Hp key z m l.length i → Hp key z (init key z l i m) l.length 0 ∧ (init key z l i m).Perm m
  | 0, m, _, h => ⟨h, List.Perm.refl _⟩
  | i + 1, m, hm, h => by
    have hd := down_spec key z m l.length i i (by omega) (Nat.le_refl _) ⟨fun k h0 hk hlo hne => h k h0 hk (by omega), fun k h0 hk he h0i hlo => by omega⟩
    have ih := init_spec l i (down key z m l.length i) (by rw [down_length]; exact hm) hd.1
    exact ⟨ih.1, ih.2.trans hd.2.1⟩
theorem getD_take {l : List α} {n k : Nat} (h : k < n) : (l.take n).getD k z = l.getD k z := by
  rw [List.getD_eq_getElem?_getD, List.getD_eq_getElem?_getD, List.getElem?_take_of_lt h]
/-- the first is taken out: what is left, the last of the turned list being what is taken -/
def popped (l : List α) : List α := down key z (swap z l 0 (l.length - 1)) (l.length - 1) 0
theorem popped_length (l : List α) : (popped key z l).length = l.length := by unfold popped; rw [down_length, swap_length]
theorem pop_spec {l : List α} (h0 : 0 < l.length) (h : Hp key z l l.length 0) :
    (popped key z l).getD (l.length - 1) z = l.getD 0 z ∧ l.Perm (l.getD 0 z :: (popped key z l).take (l.length - 1)) ∧ Hp key z ((popped key z l).take (l.length - 1)) (l.length - 1) 0 ∧ ∀ x ∈ (popped key z l).take (l.length - 1), key (l.getD 0 z) ≤ key x := by
  have hl1 : l.length - 1 < l.length := by omega
  have hd := down_spec key z (swap z l 0 (l.length - 1)) (l.length - 1) 0 0 (by rw [swap_length]; omega) (Nat.le_refl _) (by
    constructor
    · intro k hk0 hk _ hne
      rw [swap_K key z h0 hl1, swap_K key z h0 hl1, if_neg (by omega), if_neg (by omega), if_neg (by omega), if_neg (by omega)]
      exact h k hk0 (by omega) (Nat.zero_le _)
    · intro k _ _ _ h00 _
      omega)
  have hlast : (popped key z l).getD (l.length - 1) z = l.getD 0 z := by
    have := hd.2.2 (l.length - 1) (Nat.le_refl _)
    rw [swap_getD z h0 hl1, if_pos rfl] at this
    exact this
  have hlen := popped_length key z l
  have hperm : l.Perm (l.getD 0 z :: (popped key z l).take (l.length - 1)) := by
    have h1 : (popped key z l).Perm l := hd.2.1.trans (swap_perm z h0 hl1)
    have h2 : popped key z l = (popped key z l).take (l.length - 1) ++ [l.getD 0 z] := by
      have e := List.take_append_drop (l.length - 1) (popped key z l)
      have e2 : (popped key z l).drop (l.length - 1) = [l.getD 0 z] := by
        rw [List.drop_eq_getElem_cons (by omega), List.drop_eq_nil_of_le (by omega)]
        rw [List.getD_eq_getElem?_getD, List.getElem?_eq_getElem (by omega)] at hlast
        congr 1
      rw [e2] at e
      exact e.symm
    exact h1.symm.trans ((List.Perm.of_eq h2).trans (List.perm_append_comm (l₁ := (popped key z l).take (l.length - 1)) (l₂ := [l.getD 0 z])))
  refine ⟨hlast, hperm, ?_, fun x hx => ?_⟩
  · intro k hk0 hk hlo
    have := hd.1 k hk0 hk hlo
    unfold K at this ⊢
    rw [getD_take z (by omega), getD_take z hk]
    exact this
  · obtain ⟨k, hk⟩ := List.mem_iff_getElem?.1 (hperm.symm.subset (List.mem_cons_of_mem _ hx))
    have hkl : k < l.length := (List.getElem?_eq_some_iff.1 hk).1
    have := h.least key z k hkl
    unfold K at this
    rw [List.getD_eq_getElem?_getD (i := k), hk] at this
    exact this
/-- one more is laid in -/
def pushed (l : List α) (x : α) : List α := up key z (l ++ [x]) l.length
theorem push_spec {l : List α} (x : α) (h : Hp key z l l.length 0) : Hp key z (pushed key z l x) (l.length + 1) 0 ∧ (pushed key z l x).Perm (x :: l) ∧ (pushed key z l x).length = l.length + 1 := by
  have hK : ∀ k, k < l.length → K key z (l ++ [x]) k = K key z l k := fun k hk => by
    unfold K
    rw [List.getD_eq_getElem?_getD, List.getD_eq_getElem?_getD, List.getElem?_append_left hk]
  have hu := up_spec key z (l ++ [x]) (l.length + 1) l.length (by simp) (by omega) (by
    constructor
    · intro k h0 hk hne
      rw [hK _ (by omega), hK _ (by omega)]
      exact h k h0 (by omega) (Nat.zero_le _)
    · intro k _ hk he _
      omega)
  refine ⟨hu.1, hu.2.trans (List.perm_append_comm (l₁ := l) (l₂ := [x])), ?_⟩
  unfold pushed
  rw [up_length, List.length_append]
  rfl
end Go.Proofs.Ytkbmpppendelcaa.hp
