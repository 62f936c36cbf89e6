/- The plain law of package lz: bytes parsed. No program in sight. No condition. -/
import Derived.Test.YtedbidblnjajdaaLzP
namespace Go.Proofs.Ytedbidblnjajdaa.lzq

/-- how many bytes two lists begin with that are the same, n at most -/
def com : List UInt8 → List UInt8 → Nat → Nat
  | x :: xs, y :: ys, n + 1 => if x = y then com xs ys n + 1 else 0
  | _, _, _ => 0
theorem com_le : ∀ (xs ys : List UInt8) (n : Nat), com xs ys n ≤ n ∧ com xs ys n ≤ ys.length
  | [], _, _ => by simp [com]
  | _ :: _, [], _ => by simp [com]
  | _ :: _, _ :: _, 0 => by simp [com]
  | x :: xs, y :: ys, n + 1 => by
    have := com_le xs ys n
    unfold com
    split
    · simp; omega
    · simp
/-- from f on and from a on -/
def run (b : List UInt8) (f a : Nat) : Nat := com (b.drop f) (b.drop a) 200
theorem run_le (b : List UInt8) (f a : Nat) : run b f a ≤ 200 ∧ run b f a ≤ b.length - a := by
  have := com_le (b.drop f) (b.drop a) 200
  simpa [run] using this
/-- as far as n it is the same -/
def upto (b : List UInt8) (f a n : Nat) : Prop := run b f a = n + com (b.drop (f + n)) (b.drop (a + n)) (200 - n)
theorem upto_zero (b : List UInt8) (f a : Nat) : upto b f a 0 := by simp [upto, run]
theorem drop_get (b : List UInt8) {i : Nat} (h : i < b.length) : b.drop i = b.getD i 0 :: b.drop (i + 1) := drop_getD b 0 h
theorem upto_succ {b : List UInt8} {f a n : Nat} (h : upto b f a n) (hn : n < 200) (ha : a + n < b.length) (hf : f + n < b.length) (he : b.getD (f + n) 0 = b.getD (a + n) 0) : upto b f a (n + 1) := by
  unfold upto at *
  rw [h, drop_get b hf, drop_get b ha, show 200 - n = (200 - (n + 1)) + 1 by omega, com, if_pos he]
  simp only [Nat.add_assoc]
  omega
theorem upto_ne {b : List UInt8} {f a n : Nat} (h : upto b f a n) (hn : n < 200) (ha : a + n < b.length) (hf : f + n < b.length) (he : b.getD (f + n) 0 ≠ b.getD (a + n) 0) : run b f a = n := by
  unfold upto at h
  rw [h, drop_get b hf, drop_get b ha, show 200 - n = (200 - (n + 1)) + 1 by omega, com, if_neg he]
  rfl
theorem upto_far {b : List UInt8} {f a n : Nat} (h : upto b f a n) (hn : 200 ≤ n) : run b f a = n := by
  unfold upto at h
  have := (com_le (b.drop (f + n)) (b.drop (a + n)) (200 - n)).1
  omega
theorem upto_end {b : List UInt8} {f a n : Nat} (h : upto b f a n) (hn : b.length ≤ a + n) : run b f a = n := by
  unfold upto at h
  have := (com_le (b.drop (f + n)) (b.drop (a + n)) (200 - n)).2
  simp at this
  omega
/-- the key of a place -/
def key (b : List UInt8) (p : Nat) : UInt8 × UInt8 × UInt8 := (b.getD p 0, b.getD (p + 1) 0, b.getD (p + 2) 0)
theorem run_three {b : List UInt8} {f a : Nat} (hfa : f < a) (ha : a + 3 ≤ b.length) : 3 ≤ run b f a ↔ key b f = key b a := by
  have h0 := upto_zero b f a
  unfold key
  simp only [Prod.mk.injEq]
  by_cases e0 : b.getD f 0 = b.getD a 0
  · have h1 := upto_succ h0 (by omega) (by omega) (by omega) (by simpa using e0)
    by_cases e1 : b.getD (f + 1) 0 = b.getD (a + 1) 0
    · have h2 := upto_succ h1 (by omega) (by omega) (by omega) e1
      by_cases e2 : b.getD (f + 2) 0 = b.getD (a + 2) 0
      · have h3 := upto_succ h2 (by omega) (by omega) (by omega) e2
        unfold upto at h3
        exact ⟨fun _ => ⟨e0, e1, e2⟩, fun _ => by omega⟩
      · have := upto_ne h2 (by omega) (by omega) (by omega) e2
        exact ⟨fun h => by omega, fun h => absurd h.2.2 e2⟩
    · have := upto_ne h1 (by omega) (by omega) (by omega) e1
      exact ⟨fun h => by omega, fun h => absurd h.2.1 e1⟩
  · have := upto_ne h0 (by omega) (by omega) (by omega) (by simpa using e0)
    exact ⟨fun h => by omega, fun h => absurd h.1 e0⟩
theorem run_short {b : List UInt8} {f a : Nat} (ha : b.length < a + 3) : run b f a < 3 := by
  have := (run_le b f a).2
  omega

/-- the best of the first d distances: the distance and the length -/
def best (b : List UInt8) (a : Nat) : Nat → Nat × Nat
  | 0 => (0, 2)
  | d + 1 => if (best b a d).2 < run b (a - (d + 1)) a then (d + 1, run b (a - (d + 1)) a) else best b a d
theorem best_two (b : List UInt8) (a : Nat) : ∀ d, (best b a d).1 = 0 ∧ (best b a d).2 = 2 ∨ 1 ≤ (best b a d).1 ∧ (best b a d).1 ≤ d ∧ 3 ≤ (best b a d).2 ∧ (best b a d).2 ≤ 200 ∧ (best b a d).2 ≤ b.length - a
  | 0 => .inl ⟨rfl, rfl⟩
  | d + 1 => by
    have ih := best_two b a d
    have hr := run_le b (a - (d + 1)) a
    unfold best
    split
    · rename_i h
      refine .inr ⟨by simp, by simp, ?_, hr.1, hr.2⟩
      simp only
      omega
    · omega
/-- the finder's: nothing yet is (0, 0) -/
def low (s : Nat × Nat) : Nat × Nat := if s.1 = 0 then (0, 0) else s
theorem best_skip {b : List UInt8} {a k : Nat} : ∀ {d : Nat}, k ≤ d → (∀ e, k < e → e ≤ d → run b (a - e) a < 3) → best b a d = best b a k
  | 0, h, _ => by rw [show k = 0 by omega]
  | d + 1, h, hr => by
    by_cases e : k = d + 1
    · rw [e]
    · have ih := best_skip (d := d) (by omega) (fun e h1 h2 => hr e h1 (by omega))
      have hd := hr (d + 1) (by omega) (by omega)
      have h2 := best_two b a d
      rw [best, if_neg (by omega), ih]
theorem best_hit {b : List UInt8} {a k d : Nat} (hk : k < d) (hr : ∀ e, k < e → e < d → run b (a - e) a < 3) (h3 : 3 ≤ run b (a - d) a) :
    low (best b a d) = if (low (best b a k)).2 < run b (a - d) a then (d, run b (a - d) a) else low (best b a k) := by
  obtain ⟨d, rfl⟩ : ∃ m, d = m + 1 := ⟨d - 1, by omega⟩
  have h1 := best_skip (b := b) (a := a) (k := k) (d := d) (by omega) (fun e h1 h2 => hr e h1 (by omega))
  have h2 := best_two b a k
  rw [best, h1]
  unfold low
  generalize run b (a - (d + 1)) a = r at *
  generalize best b a k = s at *
  obtain ⟨s1, s2⟩ := s
  simp only at *
  rcases h2 with ⟨e1, e2⟩ | ⟨e1, e2, e3, e4⟩
  · subst e1; subst e2
    rw [if_pos (show 2 < r by omega)]
    simp
    omega
  · by_cases h : s2 < r
    · rw [if_pos h, if_neg (show ¬ s1 = 0 by omega), if_pos h]
      simp
    · rw [if_neg h, if_neg (show ¬ s1 = 0 by omega), if_neg h]

/-- the places ahead of k where a key stands -/
def poss (b : List UInt8) (q : UInt8 × UInt8 × UInt8) (k : Nat) : List Nat := (List.range k).filter fun p => decide (p + 3 ≤ b.length ∧ key b p = q)
theorem poss_zero (b : List UInt8) (q : UInt8 × UInt8 × UInt8) : poss b q 0 = [] := rfl
theorem poss_hit {b : List UInt8} {k : Nat} (h : k + 3 ≤ b.length) : poss b (key b k) (k + 1) = poss b (key b k) k ++ [k] := by
  unfold poss
  rw [List.range_succ, List.filter_append]
  simp [h]
theorem poss_miss {b : List UInt8} {q : UInt8 × UInt8 × UInt8} {k : Nat} (h : ¬ (k + 3 ≤ b.length ∧ key b k = q)) : poss b q (k + 1) = poss b q k := by
  unfold poss
  rw [List.range_succ, List.filter_append]
  simp only [List.filter_cons, List.filter_nil, decide_eq_true_eq]
  rw [if_neg h, List.append_nil]
theorem mem_poss {b : List UInt8} {q : UInt8 × UInt8 × UInt8} {k p : Nat} : p ∈ poss b q k ↔ p < k ∧ p + 3 ≤ b.length ∧ key b p = q := by
  simp [poss, List.mem_filter, List.mem_range]
theorem poss_len (b : List UInt8) (q : UInt8 × UInt8 × UInt8) (k : Nat) : (poss b q k).length ≤ k := by
  have := List.length_filter_le (fun p => decide (p + 3 ≤ b.length ∧ key b p = q)) (List.range k)
  simpa [poss] using this
theorem poss_lt (b : List UInt8) (q : UInt8 × UInt8 × UInt8) (k : Nat) {i j : Nat} (hij : i < j) (hj : j < (poss b q k).length) : (poss b q k).getD i 0 < (poss b q k).getD j 0 := by
  have h : (poss b q k).Pairwise (· < ·) := List.pairwise_lt_range.filter _
  rw [List.pairwise_iff_getElem] at h
  have := h i j (by omega) hj hij
  simpa [List.getD_eq_getElem?_getD, List.getElem?_eq_getElem hj, List.getElem?_eq_getElem (show i < (poss b q k).length by omega)] using this
theorem poss_at {b : List UInt8} {q : UInt8 × UInt8 × UInt8} {k j : Nat} (hj : j < (poss b q k).length) : (poss b q k).getD j 0 ∈ poss b q k := by
  rw [List.getD_eq_getElem?_getD, List.getElem?_eq_getElem hj]
  exact List.getElem_mem hj
/-- what the finder has when j places are left: all further ones are looked at, as far as distance k -/
def Seen (b : List UInt8) (a j k : Nat) : Prop := k ≤ a ∧ k ≤ 255 ∧ j ≤ (poss b (key b a) a).length ∧ (∀ i, i < j → (poss b (key b a) a).getD i 0 + k < a) ∧ ∀ i, j ≤ i → i < (poss b (key b a) a).length → a ≤ (poss b (key b a) a).getD i 0 + k
theorem seen_start (b : List UInt8) (a : Nat) : Seen b a (poss b (key b a) a).length 0 :=
  ⟨by omega, by omega, by omega, fun i hi => by have := (mem_poss.1 (poss_at hi)).1; omega, fun i h1 h2 => by omega⟩
theorem seen_gap {b : List UInt8} {a j k : Nat} (h : Seen b a j k) (ha : a + 3 ≤ b.length) {e : Nat} (hk : k < e) (he : e ≤ a) (hj : ∀ i, i < j → (poss b (key b a) a).getD i 0 + e < a) : run b (a - e) a < 3 := by
  refine Nat.lt_of_not_le fun h3 => ?_
  have hm : a - e ∈ poss b (key b a) a := mem_poss.2 ⟨by omega, by omega, (run_three (by omega) ha).1 h3⟩
  obtain ⟨i, hi, hv⟩ := List.mem_iff_getElem.1 hm
  have hv' : (poss b (key b a) a).getD i 0 = a - e := by rw [List.getD_eq_getElem?_getD, List.getElem?_eq_getElem hi]; exact hv
  by_cases hij : i < j
  · have := hj i hij
    omega
  · have := h.2.2.2.2 i (by omega) hi
    omega
theorem seen_next {b : List UInt8} {a j k : Nat} (h : Seen b a (j + 1) k) (ha : a + 3 ≤ b.length) (hd : a - (poss b (key b a) a).getD j 0 ≤ 255) :
    Seen b a j (a - (poss b (key b a) a).getD j 0) ∧ low (best b a (a - (poss b (key b a) a).getD j 0)) = if (low (best b a k)).2 < run b ((poss b (key b a) a).getD j 0) a then (a - (poss b (key b a) a).getD j 0, run b ((poss b (key b a) a).getD j 0) a) else low (best b a k) := by
  have hjl : j < (poss b (key b a) a).length := by have := h.2.2.1; omega
  have hm := mem_poss.1 (poss_at hjl)
  have h1 := h.2.2.2.1 j (by omega)
  have hlt : ∀ i, i < j → (poss b (key b a) a).getD i 0 < (poss b (key b a) a).getD j 0 := fun i hi => poss_lt b _ a hi hjl
  refine ⟨⟨by omega, hd, by omega, fun i hi => by have := hlt i hi; omega, fun i hi1 hi2 => ?_⟩, ?_⟩
  · by_cases e : i = j
    · subst e; omega
    · have := poss_lt b (key b a) a (show j < i by omega) hi2
      omega
  · have := best_hit (b := b) (a := a) (k := k) (d := a - (poss b (key b a) a).getD j 0) (by omega) (fun e h2 h3 => seen_gap h ha h2 (by omega) (fun i hi => ?_)) (by rw [show a - (a - (poss b (key b a) a).getD j 0) = (poss b (key b a) a).getD j 0 by omega]; exact (run_three (by omega) ha).2 hm.2.2)
    · rw [show a - (a - (poss b (key b a) a).getD j 0) = (poss b (key b a) a).getD j 0 by omega] at this
      exact this
    · by_cases e2 : i = j
      · subst e2; omega
      · have := hlt i (by omega); omega
theorem seen_end {b : List UInt8} {a j k : Nat} (h : Seen b a j k) (ha : a + 3 ≤ b.length) (hj : j = 0 ∨ 255 < a - (poss b (key b a) a).getD (j - 1) 0) : best b a (min 255 a) = best b a k := by
  have h1 := h.1
  have h2 := h.2.1
  refine best_skip (by omega) fun e he1 he2 => seen_gap h ha he1 (by omega) fun i hi => ?_
  rcases hj with rfl | hj
  · omega
  · have hjl : j - 1 < (poss b (key b a) a).length := by have := h.2.2.1; omega
    by_cases e : i = j - 1
    · subst e; omega
    · have := poss_lt b (key b a) a (show i < j - 1 by omega) hjl
      omega
theorem best_near_end {b : List UInt8} {a : Nat} (ha : b.length < a + 3) (d : Nat) : best b a d = (0, 2) :=
  best_skip (k := 0) (by omega) fun _ _ _ => run_short ha

/-- the token of a place -/
def tok (b : List UInt8) (a : Nat) : Token := let s := best b a (min 255 a); if s.1 = 0 then ⟨b.getD a 0, 0, 0⟩ else ⟨0, s.1, s.2⟩
/-- how far it goes -/
def wide (b : List UInt8) (a : Nat) : Nat := let s := best b a (min 255 a); if s.1 = 0 then 1 else s.2
theorem wide_pos (b : List UInt8) (a : Nat) (h : a < b.length) : 1 ≤ wide b a ∧ a + wide b a ≤ b.length ∧ wide b a ≤ 200 := by
  have := best_two b a (min 255 a)
  unfold wide
  simp only
  split <;> omega
/-- the tokens from a place on -/
def toks (b : List UInt8) (a : Nat) : List Token := if h : a < b.length then tok b a :: toks b (a + wide b a) else []
termination_by b.length - a
decreasing_by have := wide_pos b a h; omega
theorem toks_more {b : List UInt8} {a : Nat} (h : a < b.length) : toks b a = tok b a :: toks b (a + wide b a) := by
  rw [toks, dif_pos h]
theorem toks_end {b : List UInt8} {a : Nat} (h : b.length ≤ a) : toks b a = [] := by
  rw [toks, dif_neg (by omega)]
end Go.Proofs.Ytedbidblnjajdaa.lzq
