/- The plain law of huff.Codes: a code is what stands ahead of it. No condition. -/
import Derived.Test.YtbklccknohmibaaSortP
namespace Go.Proofs.Ytbklccknohmibaa.hf

/-- a symbol's code's length -/
def len (l : List Int) (s : Int) : Int := l.getD s.toNat 0
/-- the symbols with codes, rising -/
def syms (l : List Int) : List Int := ((List.range l.length).filter fun s => decide (0 < l.getD s 0)).map fun s : Nat => (s : Int)
/-- those of the first k -/
def symsTo (l : List Int) (k : Nat) : List Int := ((List.range k).filter fun s => decide (0 < l.getD s 0)).map fun s : Nat => (s : Int)
theorem symsTo_end (l : List Int) : symsTo l l.length = syms l := rfl
theorem symsTo_succ (l : List Int) (k : Nat) : symsTo l (k + 1) = symsTo l k ++ if 0 < l.getD k 0 then [(k : Int)] else [] := by
  unfold symsTo
  rw [List.range_succ, List.filter_append, List.map_append]
  congr 1
  by_cases h : 0 < l.getD k 0
  · rw [if_pos h, List.filter_cons, if_pos (decide_eq_true h)]; rfl
  · rw [if_neg h, List.filter_cons, if_neg (by simpa using h)]; rfl
/-- what a code of so many bits takes -/
def part (n : Int) : Nat := 2 ^ (40 - n.toNat)
def partOf (l : List Int) (s : Int) : Nat := part (len l s)
def sumP (f : Int → Nat) (L : List Int) : Nat := (L.map f).sum
theorem sumP_nil (f : Int → Nat) : sumP f [] = 0 := rfl
theorem sumP_append (f : Int → Nat) (L M : List Int) : sumP f (L ++ M) = sumP f L + sumP f M := by unfold sumP; rw [List.map_append, List.sum_append]
theorem sumP_one (f : Int → Nat) (x : Int) : sumP f [x] = f x := by simp [sumP]
theorem sumP_perm {f : Int → Nat} {L M : List Int} (h : L.Perm M) : sumP f L = sumP f M := (h.map f).sum_nat
theorem sumP_filter_le (f : Int → Nat) (p : Int → Bool) : ∀ L : List Int, sumP f (L.filter p) ≤ sumP f L
  | [] => Nat.le_refl _
  | x :: L => by
    have h := sumP_filter_le f p L
    have e : sumP f (x :: L) = f x + sumP f L := by simp [sumP]
    rw [List.filter_cons]
    split
    · have e2 : sumP f (x :: L.filter p) = f x + sumP f (L.filter p) := by simp [sumP]
      omega
    · omega
def ahead (l : List Int) (s t : Int) : Bool := decide (len l t < len l s ∨ len l t = len l s ∧ t < s)
/-- all that stands ahead of a symbol's code -/
def used (l : List Int) (s : Int) : Nat := sumP (partOf l) ((syms l).filter (ahead l s))
def codeOf (l : List Int) (s : Int) : Int := if len l s = 0 then 0 else ((used l s / part (len l s) : Nat) : Int)
def codes (l : List Int) : List Int := (List.range l.length).map fun s : Nat => codeOf l s
/-- lengths that may be -/
def fits (l : List Int) : Prop := l.length ≤ 64 ∧ (∀ n ∈ l, 0 ≤ n ∧ n ≤ 40) ∧ sumP (partOf l) (syms l) ≤ 1099511627776
noncomputable def may (l : List Int) : Bool := open Classical in decide (fits l)
theorem may_iff {l : List Int} : may l = true ↔ fits l := by unfold may; simp
theorem mem_syms {l : List Int} {s : Int} : s ∈ syms l ↔ ∃ k : Nat, k < l.length ∧ 0 < l.getD k 0 ∧ s = k := by
  unfold syms
  simp only [List.mem_map, List.mem_filter, List.mem_range, decide_eq_true_eq]
  constructor
  · rintro ⟨k, ⟨h1, h2⟩, rfl⟩; exact ⟨k, h1, h2, rfl⟩
  · rintro ⟨k, h1, h2, rfl⟩; exact ⟨k, ⟨h1, h2⟩, rfl⟩
theorem len_nat (l : List Int) (k : Nat) : len l (k : Int) = l.getD k 0 := by unfold len; rw [Int.toNat_natCast]
theorem syms_rising (l : List Int) : (syms l).Pairwise (· < ·) := by
  unfold syms
  rw [List.pairwise_map]
  refine (List.Pairwise.filter _ List.pairwise_lt_range).imp ?_
  intro a b h
  omega
theorem syms_len (l : List Int) : (syms l).length ≤ l.length := by
  unfold syms
  rw [List.length_map]
  have := List.length_filter_le (fun s => decide (0 < l.getD s 0)) (List.range l.length)
  simpa using this
theorem fits_len {l : List Int} (h : fits l) {s : Int} (hs : s ∈ syms l) : 1 ≤ len l s ∧ len l s ≤ 40 := by
  obtain ⟨k, h1, h2, rfl⟩ := mem_syms.1 hs
  rw [len_nat]
  have hm : l.getD k 0 ∈ l := by rw [List.getD_eq_getElem?_getD, List.getElem?_eq_getElem h1]; exact List.getElem_mem h1
  exact ⟨by omega, (h.2.1 _ hm).2⟩
theorem part_pos (n : Int) : 0 < part n := Nat.two_pow_pos _
theorem part_le (n : Int) : part n ≤ 1099511627776 := by
  unfold part
  exact Nat.pow_le_pow_right (by decide) (by omega : 40 - n.toNat ≤ 40)
/-- shifting by the difference of two lengths -/
theorem part_shift {a b : Int} (ha : 0 ≤ a) (hab : a ≤ b) (hb : b ≤ 40) : 2 ^ (b - a).toNat * part b = part a := by
  unfold part
  rw [← Nat.pow_add]
  congr 1
  omega
theorem ahead_iff {l : List Int} {s t : Int} : ahead l s t = true ↔ so.lx (len l) t s := by
  unfold ahead so.lx
  simp
/-- in sorted order, ahead of the i-th are the first i -/
theorem filter_take {l : List Int} : ∀ {M : List Int} {i : Nat} {s : Int}, so.Srt (len l) M → M[i]? = some s → M.filter (ahead l s) = M.take i := by
  intro M i s hM hi
  obtain ⟨h1, rfl⟩ := List.getElem?_eq_some_iff.1 hi
  have e : M = M.take i ++ M[i] :: M.drop (i + 1) := by rw [← List.drop_eq_getElem_cons h1, List.take_append_drop]
  generalize M[i] = s at *
  have hM2 := hM
  rw [e] at hM2
  obtain ⟨a1, a2, a3⟩ := List.pairwise_append.1 hM2
  obtain ⟨b1, b2⟩ := List.pairwise_cons.1 a2
  conv => lhs; rw [e]
  rw [List.filter_append, List.filter_cons]
  have t1 : (M.take i).filter (ahead l s) = M.take i := List.filter_eq_self.2 (fun x hx => ahead_iff.2 (a3 x hx s (by simp)))
  have t2 : ahead l s s = false := by
    cases h : ahead l s s
    · rfl
    · exact absurd (ahead_iff.1 h) so.lx.irrefl
  have t3 : (M.drop (i + 1)).filter (ahead l s) = [] := List.filter_eq_nil_iff.2 (fun x hx h => (b1 x hx).asymm (ahead_iff.1 h))
  rw [t1, t2, t3]
  simp
theorem used_take {l M : List Int} {i : Nat} {s : Int} (hM : so.Srt (len l) M) (hp : M.Perm (syms l)) (hi : M[i]? = some s) : used l s = sumP (partOf l) (M.take i) := by
  unfold used
  rw [← filter_take hM hi]
  exact (sumP_perm (hp.filter _)).symm
theorem sumP_take_le (f : Int → Nat) (M : List Int) (i : Nat) : sumP f (M.take i) ≤ sumP f M := by
  conv => rhs; rw [← List.take_append_drop i M]
  rw [sumP_append]
  omega
theorem sumP_take_succ (f : Int → Nat) {M : List Int} {i : Nat} {s : Int} (hi : M[i]? = some s) : sumP f (M.take (i + 1)) = sumP f (M.take i) + f s := by
  obtain ⟨h1, rfl⟩ := List.getElem?_eq_some_iff.1 hi
  rw [List.take_succ_eq_append_getElem h1, sumP_append, sumP_one]
/-- what the loop over the sorted symbols holds: next, and the last length -/
structure Run (l M : List Int) (i : Nat) (next : Nat) (long : Int) : Prop where
  lo : 0 ≤ long ∧ long ≤ 40
  sum : next * part long = sumP (partOf l) (M.take i)
  up : ∀ s, M[i]? = some s → long ≤ len l s
theorem Run.zero (l M : List Int) (h : fits l) (hp : M.Perm (syms l)) : Run l M 0 0 0 := ⟨by omega, by simp [sumP_nil], fun s hs => by
  have := fits_len h (hp.mem_iff.1 (List.mem_of_getElem? hs)); omega⟩
theorem Run.next_le {l M : List Int} {i next : Nat} {long : Int} (h : Run l M i next long) (hf : fits l) (hp : M.Perm (syms l)) : next ≤ 1099511627776 := by
  have h1 := h.sum
  have h2 := sumP_take_le (partOf l) M i
  rw [sumP_perm hp] at h2
  have h3 := hf.2.2
  have h4 := Nat.le_mul_of_pos_right next (part_pos long)
  omega
/-- one symbol more: its code, then the next -/
theorem Run.step {l M : List Int} {i next : Nat} {long s : Int} (h : Run l M i next long) (hf : fits l) (hM : so.Srt (len l) M) (hp : M.Perm (syms l)) (hi : M[i]? = some s) :
    codeOf l s = ((next * 2 ^ (len l s - long).toNat : Nat) : Int) ∧ next * 2 ^ (len l s - long).toNat ≤ 1099511627776 ∧ Run l M (i + 1) (next * 2 ^ (len l s - long).toNat + 1) (len l s) := by
  have hs := fits_len hf (hp.mem_iff.1 (List.mem_of_getElem? hi))
  have hup := h.up s hi
  have hsh := part_shift h.lo.1 hup hs.2
  have hsum : next * 2 ^ (len l s - long).toNat * part (len l s) = sumP (partOf l) (M.take i) := by rw [Nat.mul_assoc, hsh, h.sum]
  have hR : Run l M (i + 1) (next * 2 ^ (len l s - long).toNat + 1) (len l s) := ⟨by omega, by
    rw [sumP_take_succ _ hi, Nat.add_mul, Nat.one_mul, hsum]; rfl, fun u hu => by
    have := List.pairwise_iff_getElem.1 hM i (i + 1) (List.getElem?_eq_some_iff.1 hi).1 (List.getElem?_eq_some_iff.1 hu).1 (by omega)
    rw [(List.getElem?_eq_some_iff.1 hi).2, (List.getElem?_eq_some_iff.1 hu).2] at this
    exact this.le⟩
  refine ⟨?_, by have := hR.next_le hf hp; omega, hR⟩
  unfold codeOf
  rw [if_neg (by omega), used_take hM hp hi, ← hsum, Nat.mul_div_cancel _ (part_pos _)]
theorem codeOf_bd {l : List Int} (hf : fits l) (s : Int) : 0 ≤ codeOf l s ∧ codeOf l s ≤ 1099511627776 := by
  unfold codeOf
  split
  · omega
  · have h1 : used l s ≤ sumP (partOf l) (syms l) := by
      exact sumP_filter_le _ _ _
    have h2 := hf.2.2
    have h3 := Nat.div_le_self (used l s) (part (len l s))
    generalize used l s / part (len l s) = q at *
    omega
/-- the reference's sum over all symbols -/
def refUsed (l : List Int) (s : Int) (k : Nat) : Nat := sumP (partOf l) (((List.range k).filter fun t => decide (0 < l.getD t 0) && ahead l s t).map fun t : Nat => (t : Int))
theorem refUsed_succ (l : List Int) (s : Int) (k : Nat) : refUsed l s (k + 1) = refUsed l s k + if 0 < l.getD k 0 ∧ ahead l s k = true then part (l.getD k 0) else 0 := by
  unfold refUsed
  rw [List.range_succ, List.filter_append, List.map_append, sumP_append]
  congr 1
  by_cases h : 0 < l.getD k 0 ∧ ahead l s k = true
  · rw [if_pos h]
    have : (decide (0 < l.getD k 0) && ahead l s (k : Int)) = true := by rw [h.2, decide_eq_true h.1]; rfl
    rw [List.filter_cons, if_pos this]
    simp only [List.filter_nil, List.map_cons, List.map_nil]
    rw [sumP_one]
    unfold partOf
    rw [len_nat]
  · rw [if_neg h]
    have : (decide (0 < l.getD k 0) && ahead l s (k : Int)) = false := by
      cases hh : (decide (0 < l.getD k 0) && ahead l s (k : Int))
      · rfl
      · rw [Bool.and_eq_true, decide_eq_true_eq] at hh
        exact absurd hh h
    rw [List.filter_cons, this]
    rfl
theorem refUsed_end (l : List Int) (s : Int) : refUsed l s l.length = used l s := by
  unfold refUsed used syms
  rw [List.filter_map, List.filter_filter]
  congr 2
  apply List.filter_congr
  intro x _
  simp only [Function.comp]
  exact Bool.and_comm _ _
theorem refUsed_le {l : List Int} (hf : fits l) (s : Int) (k : Nat) (hk : k ≤ l.length) : refUsed l s k ≤ 1099511627776 := by
  have hm : ∀ j, refUsed l s j ≤ refUsed l s (j + 1) := fun j => by rw [refUsed_succ]; omega
  have hmono : ∀ j, k ≤ j → refUsed l s k ≤ refUsed l s j := fun j hj => by
    induction j with
    | zero => rw [show k = 0 by omega]; exact Nat.le_refl _
    | succ j ih =>
      by_cases h : k = j + 1
      · rw [h]; exact Nat.le_refl _
      · exact Nat.le_trans (ih (by omega)) (hm j)
  have h1 := hmono l.length hk
  rw [refUsed_end] at h1
  have h2 : used l s ≤ sumP (partOf l) (syms l) := by
    exact sumP_filter_le _ _ _
  have h3 := hf.2.2
  omega
/-- the sum over the first k lengths -/
def sumTo (l : List Int) (k : Nat) : Nat := sumP (partOf l) (((List.range k).filter fun t => decide (0 < l.getD t 0)).map fun t : Nat => (t : Int))
theorem sumTo_succ (l : List Int) (k : Nat) : sumTo l (k + 1) = sumTo l k + if 0 < l.getD k 0 then part (l.getD k 0) else 0 := by
  unfold sumTo
  rw [List.range_succ, List.filter_append, List.map_append, sumP_append]
  congr 1
  by_cases h : 0 < l.getD k 0
  · rw [if_pos h, List.filter_cons, if_pos (decide_eq_true h)]
    simp only [List.filter_nil, List.map_cons, List.map_nil]
    rw [sumP_one]
    unfold partOf
    rw [len_nat]
  · rw [if_neg h, List.filter_cons, if_neg (by simpa using h)]
    rfl
theorem sumTo_end (l : List Int) : sumTo l l.length = sumP (partOf l) (syms l) := rfl
theorem sumTo_le (l : List Int) : ∀ k, sumTo l k ≤ 1099511627776 * k
  | 0 => by simp [sumTo, sumP_nil]
  | k + 1 => by
    have h := sumTo_le l k
    rw [sumTo_succ]
    have := part_le (l.getD k 0)
    split <;> omega
/-- lengths of which the first k are within bounds -/
def bound (l : List Int) (k : Nat) : Prop := ∀ j, j < k → 0 ≤ l.getD j 0 ∧ l.getD j 0 ≤ 40
theorem fits_iff (l : List Int) : fits l ↔ l.length ≤ 64 ∧ bound l l.length ∧ sumTo l l.length ≤ 1099511627776 := by
  unfold fits bound
  rw [sumTo_end]
  refine and_congr Iff.rfl (and_congr ?_ Iff.rfl)
  constructor
  · intro h j hj
    exact h _ (by rw [List.getD_eq_getElem?_getD, List.getElem?_eq_getElem hj]; exact List.getElem_mem hj)
  · intro h n hn
    obtain ⟨j, hj, rfl⟩ := List.mem_iff_getElem.1 hn
    have := h j hj
    rwa [List.getD_eq_getElem?_getD, List.getElem?_eq_getElem hj] at this
/-- the row when the first i of the sorted symbols have their codes -/
noncomputable def filled (l M : List Int) (i : Nat) : List Int := (List.range l.length).map fun s : Nat => open Classical in if (s : Int) ∈ M.take i then codeOf l s else 0
theorem filled_zero (l M : List Int) : filled l M 0 = List.replicate l.length 0 := by
  unfold filled
  apply List.ext_getElem?
  intro j
  rw [List.getElem?_map, List.getElem?_replicate]
  by_cases h : j < l.length
  · rw [List.getElem?_range h, if_pos h]; simp
  · rw [List.getElem?_eq_none (by simpa using h), if_neg h]; rfl
theorem filled_len (l M : List Int) (i : Nat) : (filled l M i).length = l.length := by unfold filled; simp
theorem filled_succ {l M : List Int} {i k : Nat} (hi : M[i]? = some (k : Int)) : filled l M (i + 1) = (filled l M i).set k (codeOf l k) := by
  obtain ⟨h1, h2⟩ := List.getElem?_eq_some_iff.1 hi
  apply List.ext_getElem?
  intro j
  rw [List.getElem?_set, filled_len]
  unfold filled
  rw [List.getElem?_map, List.getElem?_map]
  by_cases h : j < l.length
  · rw [List.getElem?_range h]
    simp only [Option.map_some]
    rw [List.take_succ_eq_append_getElem h1, h2]
    by_cases e : k = j
    · subst e
      rw [if_pos rfl, if_pos h, if_pos (by simp)]
    · rw [if_neg e]
      congr 1
      have : ((j : Int) ∈ M.take i ++ [(k : Int)]) ↔ ((j : Int) ∈ M.take i) := by
        rw [List.mem_append, List.mem_singleton]
        constructor
        · rintro (h | h)
          · exact h
          · omega
        · exact .inl
      simp only [this]
  · rw [List.getElem?_eq_none (by simpa using h)]
    by_cases e : k = j
    · subst e; rw [if_pos rfl, if_neg h]; rfl
    · rw [if_neg e]; rfl
theorem filled_end {l M : List Int} (hf : fits l) (hp : M.Perm (syms l)) : filled l M M.length = codes l := by
  unfold filled codes
  rw [List.take_length]
  apply List.map_congr_left
  intro s hs
  rw [List.mem_range] at hs
  have hm : (s : Int) ∈ M ↔ 0 < l.getD s 0 := by
    rw [hp.mem_iff, mem_syms]
    constructor
    · rintro ⟨k, _, h2, h3⟩
      have : s = k := by omega
      rw [this]; exact h2
    · exact fun h => ⟨s, hs, h, rfl⟩
  by_cases h : 0 < l.getD s 0
  · rw [if_pos (hm.2 h)]
  · have h0 : 0 ≤ l.getD s 0 := hf.2.1 _ (by rw [List.getD_eq_getElem?_getD, List.getElem?_eq_getElem hs]; exact List.getElem_mem hs) |>.1
    rw [if_neg (fun x => h (hm.1 x))]
    unfold codeOf
    rw [len_nat, if_pos (by omega)]
theorem codes_len (l : List Int) : (codes l).length = l.length := by unfold codes; simp
theorem codes_at {l : List Int} {k : Nat} (hk : k < l.length) : (codes l)[k]? = some (codeOf l k) := by unfold codes; rw [List.getElem?_map, List.getElem?_range hk]; rfl
end Go.Proofs.Ytbklccknohmibaa.hf
