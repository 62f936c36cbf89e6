/- The plain law of package delta: what is new in a file. No program in sight. No condition. -/
import Derived.Test.YtedbidblnjajdaaDeltaP
namespace Go.Proofs.Ytedbidblnjajdaa.deltaq

/-- how many bytes two lists begin with that are the same -/
def al : List UInt8 → List UInt8 → Nat
  | x :: xs, y :: ys => if x = y then al xs ys + 1 else 0
  | _, _ => 0
theorem al_le : ∀ (xs ys : List UInt8), al xs ys ≤ xs.length ∧ al xs ys ≤ ys.length
  | [], _ => by simp [al]
  | _ :: _, [] => by simp [al]
  | x :: xs, y :: ys => by
    have := al_le xs ys
    unfold al
    split
    · simp; omega
    · simp
/-- as far as n it is the same -/
def upto (l r : List UInt8) (n : Nat) : Prop := al l r = n + al (l.drop n) (r.drop n)
theorem upto_zero (l r : List UInt8) : upto l r 0 := by simp [upto]
theorem upto_succ {l r : List UInt8} {n : Nat} (h : upto l r n) (hl : n < l.length) (hr : n < r.length) (he : l.getD n 0 = r.getD n 0) : upto l r (n + 1) := by
  unfold upto at *
  rw [h, drop_getD l 0 hl, drop_getD r 0 hr, al, if_pos he]
  omega
theorem upto_ne {l r : List UInt8} {n : Nat} (h : upto l r n) (hl : n < l.length) (hr : n < r.length) (he : l.getD n 0 ≠ r.getD n 0) : al l r = n := by
  unfold upto at h
  rw [h, drop_getD l 0 hl, drop_getD r 0 hr, al, if_neg he]
  rfl
theorem upto_end {l r : List UInt8} {n : Nat} (h : upto l r n) (hn : l.length ≤ n ∨ r.length ≤ n) : al l r = n := by
  unfold upto at h
  have := al_le (l.drop n) (r.drop n)
  simp at this
  omega
theorem al_take : ∀ (k : Nat) (xs ys : List UInt8), k ≤ al xs ys ↔ k ≤ xs.length ∧ k ≤ ys.length ∧ xs.take k = ys.take k
  | 0, _, _ => by simp
  | k + 1, [], ys => by simp [al]
  | k + 1, x :: xs, [] => by simp [al]
  | k + 1, x :: xs, y :: ys => by
    unfold al
    have ih := al_take k xs ys
    by_cases h : x = y
    · rw [if_pos h]
      subst h
      simp only [List.take_succ_cons, List.cons.injEq, true_and, List.length_cons]
      rw [Nat.add_le_add_iff_right, Nat.add_le_add_iff_right, Nat.add_le_add_iff_right]
      exact ih
    · rw [if_neg h]
      simp [h]
/-- the seed of a place -/
def sd (l : List UInt8) (p : Nat) : List UInt8 := (l.drop p).take 8
/-- of two files -/
def run (o n : List UInt8) (i a : Nat) : Nat := al (o.drop i) (n.drop a)
theorem run_le (o n : List UInt8) (i a : Nat) : run o n i a ≤ o.length - i ∧ run o n i a ≤ n.length - a := by
  have := al_le (o.drop i) (n.drop a)
  simpa [run] using this
theorem run_eight {o n : List UInt8} {i a : Nat} (ha : a + 8 ≤ n.length) : 8 ≤ run o n i a ↔ i + 8 ≤ o.length ∧ sd o i = sd n a := by
  unfold run
  rw [al_take]
  simp only [List.length_drop]
  constructor
  · rintro ⟨h1, _, h3⟩; exact ⟨by omega, h3⟩
  · rintro ⟨h1, h3⟩; exact ⟨by omega, by omega, h3⟩

/-- the best of the first i places of the old file: where, and how long -/
def best (o n : List UInt8) (a : Nat) : Nat → Nat × Nat
  | 0 => (0, 0)
  | i + 1 => if (best o n a i).2 < run o n i a then (i, run o n i a) else best o n a i
theorem best_le (o n : List UInt8) (a : Nat) : ∀ i, (best o n a i).2 = 0 ∧ (best o n a i).1 = 0 ∨ (best o n a i).1 < i ∧ (best o n a i).1 + (best o n a i).2 ≤ o.length ∧ (best o n a i).2 ≤ n.length - a
  | 0 => .inl ⟨rfl, rfl⟩
  | i + 1 => by
    have ih := best_le o n a i
    have hr := run_le o n i a
    unfold best
    split
    · refine .inr ⟨by simp, ?_, hr.2⟩
      simp only
      omega
    · omega
/-- what the seeds find: nothing below eight bytes -/
def low (s : Nat × Nat) : Nat × Nat := if s.2 < 8 then (0, 0) else s
theorem low_skip {o n : List UInt8} {a k : Nat} : ∀ {d : Nat}, k ≤ d → (∀ e, k ≤ e → e < d → run o n e a < 8) → low (best o n a d) = low (best o n a k)
  | 0, h, _ => by rw [show k = 0 by omega]
  | d + 1, h, hr => by
    by_cases e : k = d + 1
    · rw [e]
    · have ih := low_skip (d := d) (by omega) (fun e h1 h2 => hr e h1 (by omega))
      have hd := hr d (by omega) (by omega)
      rw [← ih, best]
      split
      · unfold low
        rw [if_pos hd, if_pos (by omega)]
      · rfl
theorem low_hit {o n : List UInt8} {a k d : Nat} (hk : k ≤ d) (hr : ∀ e, k ≤ e → e < d → run o n e a < 8) (h8 : 8 ≤ run o n d a) :
    low (best o n a (d + 1)) = if (low (best o n a k)).2 < run o n d a then (d, run o n d a) else low (best o n a k) := by
  rw [← low_skip hk hr, best]
  generalize run o n d a = r at *
  generalize best o n a d = s at *
  obtain ⟨s1, s2⟩ := s
  unfold low
  simp only
  by_cases h1 : s2 < 8
  · rw [if_pos h1, if_pos (show s2 < r by omega)]
    simp only
    rw [if_neg (show ¬ r < 8 by omega), if_pos (show 0 < r by omega)]
  · by_cases h2 : s2 < r
    · rw [if_neg h1, if_pos h2]
      simp only
      rw [if_neg (show ¬ r < 8 by omega)]
    · rw [if_neg h1, if_neg h2]
      simp only
      rw [if_neg h1]

/-- the places ahead of k where a seed stands -/
def poss (o : List UInt8) (q : List UInt8) (k : Nat) : List Nat := (List.range k).filter fun p => decide (p + 8 ≤ o.length ∧ sd o p = q)
theorem mem_poss {o q : List UInt8} {k p : Nat} : p ∈ poss o q k ↔ p < k ∧ p + 8 ≤ o.length ∧ sd o p = q := by
  simp [poss, List.mem_filter, List.mem_range]
theorem poss_len (o q : List UInt8) (k : Nat) : (poss o q k).length ≤ k := by
  have := List.length_filter_le (fun p => decide (p + 8 ≤ o.length ∧ sd o p = q)) (List.range k)
  simpa [poss] using this
theorem poss_lt (o q : List UInt8) (k : Nat) {i j : Nat} (hij : i < j) (hj : j < (poss o q k).length) : (poss o q k).getD i 0 < (poss o q k).getD j 0 := by
  have h : (poss o q k).Pairwise (· < ·) := List.pairwise_lt_range.filter _
  rw [List.pairwise_iff_getElem] at h
  have := h i j (by omega) hj hij
  simpa [List.getD_eq_getElem?_getD, List.getElem?_eq_getElem hj, List.getElem?_eq_getElem (show i < (poss o q k).length by omega)] using this
theorem poss_at {o q : List UInt8} {k j : Nat} (hj : j < (poss o q k).length) : (poss o q k).getD j 0 ∈ poss o q k := by
  rw [List.getD_eq_getElem?_getD, List.getElem?_eq_getElem hj]
  exact List.getElem_mem hj
/-- all places there -/
def all (o n : List UInt8) (a : Nat) : List Nat := poss o (sd n a) o.length
/-- j of them have been looked at: all ahead of k -/
def Seen (o n : List UInt8) (a j k : Nat) : Prop := k ≤ o.length ∧ j ≤ (all o n a).length ∧ (∀ i, i < j → (all o n a).getD i 0 < k) ∧ ∀ i, j ≤ i → i < (all o n a).length → k ≤ (all o n a).getD i 0
theorem seen_start (o n : List UInt8) (a : Nat) : Seen o n a 0 0 := ⟨by omega, by omega, fun i hi => by omega, fun i _ _ => by omega⟩
theorem seen_gap {o n : List UInt8} {a j k : Nat} (h : Seen o n a j k) (ha : a + 8 ≤ n.length) {e : Nat} (hk : k ≤ e) (he : e < o.length) (hj : ∀ i, j ≤ i → i < (all o n a).length → e < (all o n a).getD i 0) : run o n e a < 8 := by
  refine Nat.lt_of_not_le fun h8 => ?_
  have h2 := (run_eight ha).1 h8
  have hm : e ∈ all o n a := mem_poss.2 ⟨he, h2.1, h2.2⟩
  obtain ⟨i, hi, hv⟩ := List.mem_iff_getElem.1 hm
  have hv' : (all o n a).getD i 0 = e := by rw [List.getD_eq_getElem?_getD, List.getElem?_eq_getElem hi]; exact hv
  by_cases hij : i < j
  · have := h.2.2.1 i hij
    omega
  · have := hj i (by omega) hi
    omega
theorem seen_next {o n : List UInt8} {a j k : Nat} (h : Seen o n a j k) (ha : a + 8 ≤ n.length) (hj : j < (all o n a).length) :
    Seen o n a (j + 1) ((all o n a).getD j 0 + 1) ∧ low (best o n a ((all o n a).getD j 0 + 1)) = if (low (best o n a k)).2 < run o n ((all o n a).getD j 0) a then ((all o n a).getD j 0, run o n ((all o n a).getD j 0) a) else low (best o n a k) := by
  have hm := mem_poss.1 (poss_at hj)
  have hk := h.2.2.2 j (Nat.le_refl _) hj
  refine ⟨⟨?_, hj, fun i hi => ?_, fun i h1 h2 => ?_⟩, ?_⟩
  · exact hm.1
  · by_cases e : i = j
    · subst e; omega
    · have := poss_lt o (sd n a) o.length (show i < j by omega) hj
      unfold all
      omega
  · exact poss_lt o (sd n a) o.length (show j < i by omega) h2
  · refine low_hit hk (fun e h1 h2 => seen_gap h ha h1 (Nat.lt_trans h2 hm.1) fun i h3 h4 => ?_) ((run_eight ha).2 ⟨hm.2.1, hm.2.2⟩)
    by_cases e2 : i = j
    · subst e2; exact h2
    · have := poss_lt o (sd n a) o.length (show j < i by omega) h4
      unfold all at *
      omega
theorem seen_end {o n : List UInt8} {a k : Nat} (h : Seen o n a (all o n a).length k) (ha : a + 8 ≤ n.length) : low (best o n a o.length) = low (best o n a k) :=
  low_skip h.1 fun e h1 h2 => seen_gap h ha h1 h2 fun i h3 h4 => by omega
theorem low_near {o n : List UInt8} {a : Nat} (ha : n.length < a + 8) : low (best o n a o.length) = (0, 0) :=
  (low_skip (k := 0) (Nat.zero_le _) fun e _ _ => by have := (run_le o n e a).2; omega).trans rfl

/-- the best of a place -/
def top (o n : List UInt8) (a : Nat) : Nat × Nat := best o n a o.length
def lit (d : List UInt8) : Piece := ⟨false, 0, 0, d⟩
def cop (s : Nat × Nat) : Piece := ⟨true, s.1, s.2, []⟩
/-- the pieces from a place on, where new bytes stand open -/
def pcs (o n : List UInt8) (a : Nat) (d : Option (List UInt8)) : List Piece :=
  if _h : a < n.length then
    if _h8 : 8 ≤ (top o n a).2 then d.toList.map lit ++ cop (top o n a) :: pcs o n (a + (top o n a).2) none
    else pcs o n (a + 1) (some (d.getD [] ++ [n.getD a 0]))
  else d.toList.map lit
termination_by n.length - a
decreasing_by
  · omega
  · omega
theorem pcs_copy {o n : List UInt8} {a : Nat} (d : Option (List UInt8)) (h : a < n.length) (h8 : 8 ≤ (top o n a).2) : pcs o n a d = d.toList.map lit ++ cop (top o n a) :: pcs o n (a + (top o n a).2) none := by
  rw [pcs, dif_pos h, dif_pos h8]
theorem pcs_lit {o n : List UInt8} {a : Nat} (d : Option (List UInt8)) (h : a < n.length) (h8 : (top o n a).2 < 8) : pcs o n a d = pcs o n (a + 1) (some (d.getD [] ++ [n.getD a 0])) := by
  rw [pcs, dif_pos h, dif_neg (by omega)]
theorem pcs_end {o n : List UInt8} {a : Nat} (d : Option (List UInt8)) (h : n.length ≤ a) : pcs o n a d = d.toList.map lit := by
  rw [pcs, dif_neg (by omega)]
theorem top_le (o n : List UInt8) (a : Nat) : (top o n a).1 ≤ o.length ∧ (top o n a).2 ≤ n.length - a := by
  have := best_le o n a o.length
  unfold top
  omega
end Go.Proofs.Ytedbidblnjajdaa.deltaq
