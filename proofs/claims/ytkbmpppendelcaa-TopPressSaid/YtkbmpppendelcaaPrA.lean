/- Texts in one: SortP, HuffP, HuffT, HuffQ, HuffD, Play, PressH, LzP, LzQ, PressQ. No condition. -/
import Derived.Test.YtkbmpppendelcaaTypes
section
namespace Go.Proofs.Ytkbmpppendelcaa.so

/-- the order of a stable sort of rising numbers: by the key, then by the number -/
def lx (key : Int → Int) (a b : Int) : Prop := key a < key b ∨ (key a = key b ∧ a < b)
section
variable {key : Int → Int}
theorem lx.trans {a b c : Int} (h : lx key a b) (k : lx key b c) : lx key a c := by unfold lx at *; omega
theorem lx.irrefl {a : Int} : ¬ lx key a a := by unfold lx; omega
theorem lx.asymm {a b : Int} (h : lx key a b) : ¬ lx key b a := by unfold lx at *; omega
theorem lx.le {a b : Int} (h : lx key a b) : key a ≤ key b := by unfold lx at h; omega
theorem lx.of_le {a b : Int} (h : key a ≤ key b) (hab : a < b) : lx key a b := by unfold lx; omega
theorem lx.of_lt {a b : Int} (h : key a < key b) : lx key a b := .inl h
abbrev Srt (key : Int → Int) (l : List Int) : Prop := l.Pairwise (lx key)
/-- a sorted list is the only one of its elements -/
theorem Srt.unique : ∀ {l m : List Int}, Srt key l → Srt key m → l.Perm m → l = m
  | [], m, _, _, h => (List.Perm.eq_nil h.symm).symm
  | x :: l, [], _, _, h => absurd h.length_eq (by simp)
  | x :: l, y :: m, hl, hm, h => by
    obtain ⟨h1, h2⟩ := List.pairwise_cons.1 hl
    obtain ⟨k1, k2⟩ := List.pairwise_cons.1 hm
    have hxy : x = y := by
      have hx : x ∈ y :: m := h.mem_iff.1 (by simp)
      have hy : y ∈ x :: l := h.mem_iff.2 (by simp)
      rcases List.mem_cons.1 hx with e | hx
      · exact e
      · rcases List.mem_cons.1 hy with e | hy
        · exact e.symm
        · exact absurd (h1 y hy) (k1 x hx).asymm
    subst hxy
    rw [Srt.unique h2 k2 ((List.perm_cons x).1 h)]
/-- one element laid among sorted ones -/
theorem Srt.insert {l : List Int} {x : Int} {t : Nat} (h : Srt key l) (h1 : ∀ y ∈ l.take t, lx key y x) (h2 : ∀ y ∈ l.drop t, lx key x y) : Srt key (l.take t ++ x :: l.drop t) := by
  have hs : Srt key (l.take t ++ l.drop t) := by rw [List.take_append_drop]; exact h
  obtain ⟨a, b, c⟩ := List.pairwise_append.1 hs
  refine List.pairwise_append.2 ⟨a, List.pairwise_cons.2 ⟨h2, b⟩, fun y hy z hz => ?_⟩
  rcases List.mem_cons.1 hz with rfl | hz
  · exact h1 y hy
  · exact c y hy z hz
theorem Srt.at {l : List Int} (h : Srt key l) {i j : Nat} (hij : i < j) (hj : j < l.length) : lx key (l.getD i 0) (l.getD j 0) := by
  have := List.pairwise_iff_getElem.1 h i j (by omega) hj hij
  simpa [List.getD_eq_getElem?_getD, List.getElem?_eq_getElem hj, List.getElem?_eq_getElem (show i < l.length by omega)] using this
theorem mem_take_at {l : List Int} {t : Nat} {y : Int} (h : y ∈ l.take t) : ∃ i, i < t ∧ i < l.length ∧ l.getD i 0 = y := by
  obtain ⟨i, hi, e⟩ := List.mem_iff_getElem.1 h
  rw [List.length_take] at hi
  refine ⟨i, by omega, by omega, ?_⟩
  rw [List.getElem_take] at e
  rw [List.getD_eq_getElem?_getD, List.getElem?_eq_getElem (by omega)]
  exact e
theorem mem_drop_at {l : List Int} {t : Nat} {y : Int} (h : y ∈ l.drop t) : ∃ i, t ≤ i ∧ i < l.length ∧ l.getD i 0 = y := by
  obtain ⟨i, hi, e⟩ := List.mem_iff_getElem.1 h
  rw [List.length_drop] at hi
  refine ⟨t + i, by omega, by omega, ?_⟩
  rw [List.getElem_drop] at e
  rw [List.getD_eq_getElem?_getD, List.getElem?_eq_getElem (by omega)]
  exact e
theorem insert_perm (l : List Int) (x : Int) (t : Nat) : (l.take t ++ x :: l.drop t).Perm (x :: l) := by
  have h := List.perm_middle (a := x) (l₁ := l.take t) (l₂ := l.drop t)
  rwa [List.take_append_drop] at h
/-- both halves, merged by the two middle cuts -/
theorem Srt.merge {L1 L2 R1 R2 M1 M2 : List Int} (hL : Srt key (L1 ++ L2)) (hR : Srt key (R1 ++ R2)) (h12 : ∀ x ∈ L1, ∀ y ∈ R2, lx key x y) (h21 : ∀ x ∈ R1, ∀ y ∈ L2, lx key x y)
    (p1 : M1.Perm (L1 ++ R1)) (p2 : M2.Perm (L2 ++ R2)) (s1 : Srt key M1) (s2 : Srt key M2) : Srt key (M1 ++ M2) := by
  obtain ⟨_, _, hl⟩ := List.pairwise_append.1 hL
  obtain ⟨_, _, hr⟩ := List.pairwise_append.1 hR
  refine List.pairwise_append.2 ⟨s1, s2, fun x hx y hy => ?_⟩
  rcases List.mem_append.1 (p1.mem_iff.1 hx) with hx | hx <;> rcases List.mem_append.1 (p2.mem_iff.1 hy) with hy | hy
  · exact hl x hx y hy
  · exact h12 x hx y hy
  · exact h21 x hx y hy
  · exact hr x hx y hy
theorem merge_perm {L1 L2 R1 R2 M1 M2 : List Int} (p1 : M1.Perm (L1 ++ R1)) (p2 : M2.Perm (L2 ++ R2)) : (M1 ++ M2).Perm ((L1 ++ L2) ++ (R1 ++ R2)) := by
  refine (p1.append p2).trans ?_
  simp only [List.append_assoc]
  refine List.Perm.append_left _ ?_
  rw [← List.append_assoc, ← List.append_assoc]
  exact List.Perm.append_right _ List.perm_append_comm
end
end Go.Proofs.Ytkbmpppendelcaa.so
end
section
namespace Go.Proofs.Ytkbmpppendelcaa.hf

/-- a symbol's code's length -/
def len (l : List Int) (s : Int) : Int := l.getD s.toNat 0
/-- the symbols with codes, rising -/
def syms (l : List Int) : List Int := ((List.range l.length).filter fun s => decide (0 < l.getD s 0)).map fun s : Nat => (s : Int)
/-- those of the first k -/
def symsTo (l : List Int) (k : Nat) : List Int := ((List.range k).filter fun s => decide (0 < l.getD s 0)).map fun s : Nat => (s : Int)
theorem symsTo_end (l : List Int) : symsTo l l.length = syms l := rfl
theorem symsTo_succ (l : List Int) (k : Nat) : symsTo l (k + 1) = symsTo l k ++ if 0 < l.getD k 0 then [(k : Int)] else [] := by
  unfold symsTo
  rw [List.range_succ, List.filter_append, List.map_append]
  congr 1
  by_cases h : 0 < l.getD k 0
  · rw [if_pos h, List.filter_cons, if_pos (decide_eq_true h)]; rfl
  · rw [if_neg h, List.filter_cons, if_neg (by simpa using h)]; rfl
/-- what a code of so many bits takes -/
def part (n : Int) : Nat := 2 ^ (40 - n.toNat)
def partOf (l : List Int) (s : Int) : Nat := part (len l s)
def sumP (f : Int → Nat) (L : List Int) : Nat := (L.map f).sum
theorem sumP_nil (f : Int → Nat) : sumP f [] = 0 := rfl
theorem sumP_append (f : Int → Nat) (L M : List Int) : sumP f (L ++ M) = sumP f L + sumP f M := by unfold sumP; rw [List.map_append, List.sum_append]
theorem sumP_one (f : Int → Nat) (x : Int) : sumP f [x] = f x := by simp [sumP]
theorem sumP_perm {f : Int → Nat} {L M : List Int} (h : L.Perm M) : sumP f L = sumP f M := (h.map f).sum_nat
theorem sumP_filter_le (f : Int → Nat) (p : Int → Bool) : ∀ L : List Int, sumP f (L.filter p) ≤ sumP f L
  | [] => Nat.le_refl _
  | x :: L => by
    have h := sumP_filter_le f p L
    have e : sumP f (x :: L) = f x + sumP f L := by simp [sumP]
    rw [List.filter_cons]
    split
    · have e2 : sumP f (x :: L.filter p) = f x + sumP f (L.filter p) := by simp [sumP]
      omega
    · omega
def ahead (l : List Int) (s t : Int) : Bool := decide (len l t < len l s ∨ len l t = len l s ∧ t < s)
/-- all that stands ahead of a symbol's code -/
def used (l : List Int) (s : Int) : Nat := sumP (partOf l) ((syms l).filter (ahead l s))
def codeOf (l : List Int) (s : Int) : Int := if len l s = 0 then 0 else ((used l s / part (len l s) : Nat) : Int)
def codes (l : List Int) : List Int := (List.range l.length).map fun s : Nat => codeOf l s
/-- lengths that may be -/
def fits (l : List Int) : Prop := l.length ≤ 64 ∧ (∀ n ∈ l, 0 ≤ n ∧ n ≤ 40) ∧ sumP (partOf l) (syms l) ≤ 1099511627776
noncomputable def may (l : List Int) : Bool := open Classical in decide (fits l)
theorem may_iff {l : List Int} : may l = true ↔ fits l := by unfold may; simp
theorem mem_syms {l : List Int} {s : Int} : s ∈ syms l ↔ ∃ k : Nat, k < l.length ∧ 0 < l.getD k 0 ∧ s = k := by
  unfold syms
  simp only [List.mem_map, List.mem_filter, List.mem_range, decide_eq_true_eq]
  constructor
  · rintro ⟨k, ⟨h1, h2⟩, rfl⟩; exact ⟨k, h1, h2, rfl⟩
  · rintro ⟨k, h1, h2, rfl⟩; exact ⟨k, ⟨h1, h2⟩, rfl⟩
theorem len_nat (l : List Int) (k : Nat) : len l (k : Int) = l.getD k 0 := by unfold len; rw [Int.toNat_natCast]
theorem syms_rising (l : List Int) : (syms l).Pairwise (· < ·) := by
  unfold syms
  rw [List.pairwise_map]
  refine (List.Pairwise.filter _ List.pairwise_lt_range).imp ?_
  intro a b h
  omega
theorem syms_len (l : List Int) : (syms l).length ≤ l.length := by
  unfold syms
  rw [List.length_map]
  have := List.length_filter_le (fun s => decide (0 < l.getD s 0)) (List.range l.length)
  simpa using this
theorem fits_len {l : List Int} (h : fits l) {s : Int} (hs : s ∈ syms l) : 1 ≤ len l s ∧ len l s ≤ 40 := by
  obtain ⟨k, h1, h2, rfl⟩ := mem_syms.1 hs
  rw [len_nat]
  have hm : l.getD k 0 ∈ l := by rw [List.getD_eq_getElem?_getD, List.getElem?_eq_getElem h1]; exact List.getElem_mem h1
  exact ⟨by omega, (h.2.1 _ hm).2⟩
theorem part_pos (n : Int) : 0 < part n := Nat.two_pow_pos _
theorem part_le (n : Int) : part n ≤ 1099511627776 := by
  unfold part
  exact Nat.pow_le_pow_right (by decide) (by omega : 40 - n.toNat ≤ 40)
/-- shifting by the difference of two lengths -/
theorem part_shift {a b : Int} (ha : 0 ≤ a) (hab : a ≤ b) (hb : b ≤ 40) : 2 ^ (b - a).toNat * part b = part a := by
  unfold part
  rw [← Nat.pow_add]
  congr 1
  omega
theorem ahead_iff {l : List Int} {s t : Int} : ahead l s t = true ↔ so.lx (len l) t s := by
  unfold ahead so.lx
  simp
/-- in sorted order, ahead of the i-th are the first i -/
theorem filter_take {l : List Int} : ∀ {M : List Int} {i : Nat} {s : Int}, so.Srt (len l) M → M[i]? = some s → M.filter (ahead l s) = M.take i := by
  intro M i s hM hi
  obtain ⟨h1, rfl⟩ := List.getElem?_eq_some_iff.1 hi
  have e : M = M.take i ++ M[i] :: M.drop (i + 1) := by rw [← List.drop_eq_getElem_cons h1, List.take_append_drop]
  generalize M[i] = s at *
  have hM2 := hM
  rw [e] at hM2
  obtain ⟨a1, a2, a3⟩ := List.pairwise_append.1 hM2
  obtain ⟨b1, b2⟩ := List.pairwise_cons.1 a2
  conv => lhs; rw [e]
  rw [List.filter_append, List.filter_cons]
  have t1 : (M.take i).filter (ahead l s) = M.take i := List.filter_eq_self.2 (fun x hx => ahead_iff.2 (a3 x hx s (by simp)))
  have t2 : ahead l s s = false := by
    cases h : ahead l s s
    · rfl
    · exact absurd (ahead_iff.1 h) so.lx.irrefl
  have t3 : (M.drop (i + 1)).filter (ahead l s) = [] := List.filter_eq_nil_iff.2 (fun x hx h => (b1 x hx).asymm (ahead_iff.1 h))
  rw [t1, t2, t3]
  simp
theorem used_take {l M : List Int} {i : Nat} {s : Int} (hM : so.Srt (len l) M) (hp : M.Perm (syms l)) (hi : M[i]? = some s) : used l s = sumP (partOf l) (M.take i) := by
  unfold used
  rw [← filter_take hM hi]
  exact (sumP_perm (hp.filter _)).symm
theorem sumP_take_le (f : Int → Nat) (M : List Int) (i : Nat) : sumP f (M.take i) ≤ sumP f M := by
  conv => rhs; rw [← List.take_append_drop i M]
  rw [sumP_append]
  omega
theorem sumP_take_succ (f : Int → Nat) {M : List Int} {i : Nat} {s : Int} (hi : M[i]? = some s) : sumP f (M.take (i + 1)) = sumP f (M.take i) + f s := by
  obtain ⟨h1, rfl⟩ := List.getElem?_eq_some_iff.1 hi
  rw [List.take_succ_eq_append_getElem h1, sumP_append, sumP_one]
/-- what the loop over the sorted symbols holds: next, and the last length -/
structure Run (l M : List Int) (i : Nat) (next : Nat) (long : Int) : Prop where
  lo : 0 ≤ long ∧ long ≤ 40
  sum : next * part long = sumP (partOf l) (M.take i)
  up : ∀ s, M[i]? = some s → long ≤ len l s
theorem Run.zero (l M : List Int) (h : fits l) (hp : M.Perm (syms l)) : Run l M 0 0 0 := ⟨by omega, by simp [sumP_nil], fun s hs => by
  have := fits_len h (hp.mem_iff.1 (List.mem_of_getElem? hs)); omega⟩
theorem Run.next_le {l M : List Int} {i next : Nat} {long : Int} (h : Run l M i next long) (hf : fits l) (hp : M.Perm (syms l)) : next ≤ 1099511627776 := by
  have h1 := h.sum
  have h2 := sumP_take_le (partOf l) M i
  rw [sumP_perm hp] at h2
  have h3 := hf.2.2
  have h4 := Nat.le_mul_of_pos_right next (part_pos long)
  omega
/-- one symbol more: its code, then the next -/
theorem Run.step {l M : List Int} {i next : Nat} {long s : Int} (h : Run l M i next long) (hf : fits l) (hM : so.Srt (len l) M) (hp : M.Perm (syms l)) (hi : M[i]? = some s) :
    codeOf l s = ((next * 2 ^ (len l s - long).toNat : Nat) : Int) ∧ next * 2 ^ (len l s - long).toNat ≤ 1099511627776 ∧ Run l M (i + 1) (next * 2 ^ (len l s - long).toNat + 1) (len l s) := by
  have hs := fits_len hf (hp.mem_iff.1 (List.mem_of_getElem? hi))
  have hup := h.up s hi
  have hsh := part_shift h.lo.1 hup hs.2
  have hsum : next * 2 ^ (len l s - long).toNat * part (len l s) = sumP (partOf l) (M.take i) := by rw [Nat.mul_assoc, hsh, h.sum]
  have hR : Run l M (i + 1) (next * 2 ^ (len l s - long).toNat + 1) (len l s) := ⟨by omega, by
    rw [sumP_take_succ _ hi, Nat.add_mul, Nat.one_mul, hsum]; rfl, fun u hu => by
    have := List.pairwise_iff_getElem.1 hM i (i + 1) (List.getElem?_eq_some_iff.1 hi).1 (List.getElem?_eq_some_iff.1 hu).1 (by omega)
    rw [(List.getElem?_eq_some_iff.1 hi).2, (List.getElem?_eq_some_iff.1 hu).2] at this
    exact this.le⟩
  refine ⟨?_, by have := hR.next_le hf hp; omega, hR⟩
  unfold codeOf
  rw [if_neg (by omega), used_take hM hp hi, ← hsum, Nat.mul_div_cancel _ (part_pos _)]
theorem codeOf_bd {l : List Int} (hf : fits l) (s : Int) : 0 ≤ codeOf l s ∧ codeOf l s ≤ 1099511627776 := by
  unfold codeOf
  split
  · omega
  · have h1 : used l s ≤ sumP (partOf l) (syms l) := by
      exact sumP_filter_le _ _ _
    have h2 := hf.2.2
    have h3 := Nat.div_le_self (used l s) (part (len l s))
    generalize used l s / part (len l s) = q at *
    omega
/-- the reference's sum over all symbols -/
def refUsed (l : List Int) (s : Int) (k : Nat) : Nat := sumP (partOf l) (((List.range k).filter fun t => decide (0 < l.getD t 0) && ahead l s t).map fun t : Nat => (t : Int))
theorem refUsed_succ (l : List Int) (s : Int) (k : Nat) : refUsed l s (k + 1) = refUsed l s k + if 0 < l.getD k 0 ∧ ahead l s k = true then part (l.getD k 0) else 0 := by
  unfold refUsed
  rw [List.range_succ, List.filter_append, List.map_append, sumP_append]
  congr 1
  by_cases h : 0 < l.getD k 0 ∧ ahead l s k = true
  · rw [if_pos h]
    have : (decide (0 < l.getD k 0) && ahead l s (k : Int)) = true := by rw [h.2, decide_eq_true h.1]; rfl
    rw [List.filter_cons, if_pos this]
    simp only [List.filter_nil, List.map_cons, List.map_nil]
    rw [sumP_one]
    unfold partOf
    rw [len_nat]
  · rw [if_neg h]
    have : (decide (0 < l.getD k 0) && ahead l s (k : Int)) = false := by
      cases hh : (decide (0 < l.getD k 0) && ahead l s (k : Int))
      · rfl
      · rw [Bool.and_eq_true, decide_eq_true_eq] at hh
        exact absurd hh h
    rw [List.filter_cons, this]
    rfl
theorem refUsed_end (l : List Int) (s : Int) : refUsed l s l.length = used l s := by
  unfold refUsed used syms
  rw [List.filter_map, List.filter_filter]
  congr 2
  apply List.filter_congr
  intro x _
  simp only [Function.comp]
  exact Bool.and_comm _ _
theorem refUsed_le {l : List Int} (hf : fits l) (s : Int) (k : Nat) (hk : k ≤ l.length) : refUsed l s k ≤ 1099511627776 := by
  have hm : ∀ j, refUsed l s j ≤ refUsed l s (j + 1) := fun j => by rw [refUsed_succ]; omega
  have hmono : ∀ j, k ≤ j → refUsed l s k ≤ refUsed l s j := fun j hj => by
    induction j with
    | zero => rw [show k = 0 by omega]; exact Nat.le_refl _
    | succ j ih =>
      by_cases h : k = j + 1
      · rw [h]; exact Nat.le_refl _
      · exact Nat.le_trans (ih (by omega)) (hm j)
  have h1 := hmono l.length hk
  rw [refUsed_end] at h1
  have h2 : used l s ≤ sumP (partOf l) (syms l) := by
    exact sumP_filter_le _ _ _
  have h3 := hf.2.2
  omega
/-- the sum over the first k lengths -/
def sumTo (l : List Int) (k : Nat) : Nat := sumP (partOf l) (((List.range k).filter fun t => decide (0 < l.getD t 0)).map fun t : Nat => (t : Int))
theorem sumTo_succ (l : List Int) (k : Nat) : sumTo l (k + 1) = sumTo l k + if 0 < l.getD k 0 then part (l.getD k 0) else 0 := by
  unfold sumTo
  rw [List.range_succ, List.filter_append, List.map_append, sumP_append]
  congr 1
  by_cases h : 0 < l.getD k 0
  · rw [if_pos h, List.filter_cons, if_pos (decide_eq_true h)]
    simp only [List.filter_nil, List.map_cons, List.map_nil]
    rw [sumP_one]
    unfold partOf
    rw [len_nat]
  · rw [if_neg h, List.filter_cons, if_neg (by simpa using h)]
    rfl
theorem sumTo_end (l : List Int) : sumTo l l.length = sumP (partOf l) (syms l) := rfl
theorem sumTo_le (l : List Int) : ∀ k, sumTo l k ≤ 1099511627776 * k
  | 0 => by simp [sumTo, sumP_nil]
  | k + 1 => by
    have h := sumTo_le l k
    rw [sumTo_succ]
    have := part_le (l.getD k 0)
    split <;> omega
/-- lengths of which the first k are within bounds -/
def bound (l : List Int) (k : Nat) : Prop := ∀ j, j < k → 0 ≤ l.getD j 0 ∧ l.getD j 0 ≤ 40
theorem fits_iff (l : List Int) : fits l ↔ l.length ≤ 64 ∧ bound l l.length ∧ sumTo l l.length ≤ 1099511627776 := by
  unfold fits bound
  rw [sumTo_end]
  refine and_congr Iff.rfl (and_congr ?_ Iff.rfl)
  constructor
  · intro h j hj
    exact h _ (by rw [List.getD_eq_getElem?_getD, List.getElem?_eq_getElem hj]; exact List.getElem_mem hj)
  · intro h n hn
    obtain ⟨j, hj, rfl⟩ := List.mem_iff_getElem.1 hn
    have := h j hj
    rwa [List.getD_eq_getElem?_getD, List.getElem?_eq_getElem hj] at this
/-- the row when the first i of the sorted symbols have their codes -/
noncomputable def filled (l M : List Int) (i : Nat) : List Int := (List.range l.length).map fun s : Nat => open Classical in if (s : Int) ∈ M.take i then codeOf l s else 0
theorem filled_zero (l M : List Int) : filled l M 0 = List.replicate l.length 0 := by
  unfold filled
  apply List.ext_getElem?
  intro j
  rw [List.getElem?_map, List.getElem?_replicate]
  by_cases h : j < l.length
  · rw [List.getElem?_range h, if_pos h]; simp
  · rw [List.getElem?_eq_none (by simpa using h), if_neg h]; rfl
theorem filled_len (l M : List Int) (i : Nat) : (filled l M i).length = l.length := by unfold filled; simp
theorem filled_succ {l M : List Int} {i k : Nat} (hi : M[i]? = some (k : Int)) : filled l M (i + 1) = (filled l M i).set k (codeOf l k) := by
  obtain ⟨h1, h2⟩ := List.getElem?_eq_some_iff.1 hi
  apply List.ext_getElem?
  intro j
  rw [List.getElem?_set, filled_len]
  unfold filled
  rw [List.getElem?_map, List.getElem?_map]
  by_cases h : j < l.length
  · rw [List.getElem?_range h]
    simp only [Option.map_some]
    rw [List.take_succ_eq_append_getElem h1, h2]
    by_cases e : k = j
    · subst e
      rw [if_pos rfl, if_pos h, if_pos (by simp)]
    · rw [if_neg e]
      congr 1
      have : ((j : Int) ∈ M.take i ++ [(k : Int)]) ↔ ((j : Int) ∈ M.take i) := by
        rw [List.mem_append, List.mem_singleton]
        constructor
        · rintro (h | h)
          · exact h
          · omega
        · exact .inl
      simp only [this]
  · rw [List.getElem?_eq_none (by simpa using h)]
    by_cases e : k = j
    · subst e; rw [if_pos rfl, if_neg h]; rfl
    · rw [if_neg e]; rfl
theorem filled_end {l M : List Int} (hf : fits l) (hp : M.Perm (syms l)) : filled l M M.length = codes l := by
  unfold filled codes
  rw [List.take_length]
  apply List.map_congr_left
  intro s hs
  rw [List.mem_range] at hs
  have hm : (s : Int) ∈ M ↔ 0 < l.getD s 0 := by
    rw [hp.mem_iff, mem_syms]
    constructor
    · rintro ⟨k, _, h2, h3⟩
      have : s = k := by omega
      rw [this]; exact h2
    · exact fun h => ⟨s, hs, h, rfl⟩
  by_cases h : 0 < l.getD s 0
  · rw [if_pos (hm.2 h)]
  · have h0 : 0 ≤ l.getD s 0 := hf.2.1 _ (by rw [List.getD_eq_getElem?_getD, List.getElem?_eq_getElem hs]; exact List.getElem_mem hs) |>.1
    rw [if_neg (fun x => h (hm.1 x))]
    unfold codeOf
    rw [len_nat, if_pos (by omega)]
theorem codes_len (l : List Int) : (codes l).length = l.length := by unfold codes; simp
theorem codes_at {l : List Int} {k : Nat} (hk : k < l.length) : (codes l)[k]? = some (codeOf l k) := by unfold codes; rw [List.getElem?_map, List.getElem?_range hk]; rfl
end Go.Proofs.Ytkbmpppendelcaa.hf
end
section
namespace Go.Proofs.Ytkbmpppendelcaa.hl

inductive T where
  | leaf (c : Int) (s : Nat)
  | node (c : Int) (pa : Nat) (a : T) (pb : Nat) (b : T) (d : Int)
def cnt : T → Int
  | .leaf c _ => c
  | .node c _ _ _ _ _ => c
def dep : T → Int
  | .leaf _ _ => 0
  | .node _ _ _ _ _ d => d
def sub : T → Int
  | .leaf _ _ => 0
  | .node _ _ a _ b _ => max (cnt a) (cnt b)
def symsT : T → List Nat
  | .leaf _ s => [s]
  | .node _ _ a _ b _ => symsT a ++ symsT b
def cost : T → Int
  | .leaf _ _ => 0
  | .node c _ a _ b _ => c + cost a + cost b
def WF (counts : List Int) : T → Prop
  | .leaf c s => s < counts.length ∧ counts.getD s 0 = c ∧ 1 ≤ c
  | .node c _ a _ b d => c = cnt a + cnt b ∧ d = max (dep a) (dep b) + 1 ∧ WF counts a ∧ WF counts b
def lay : T → Int → List Int → List Int
  | .leaf _ s, d, out => out.set s d
  | .node _ _ a _ b _, d, out => lay b (d + 1) (lay a (d + 1) out)
/-- the two put together -/
def join (pa : Nat) (a : T) (pb : Nat) (b : T) : T := .node (cnt a + cnt b) pa a pb b (max (dep a) (dep b) + 1)
def fib : Nat → Nat
  | 0 => 0
  | 1 => 1
  | n + 2 => fib n + fib (n + 1)
theorem fib_le : ∀ n, fib n ≤ fib (n + 1)
  | 0 => by decide
  | 1 => by decide
  | n + 2 => by
    show fib n + fib (n + 1) ≤ fib (n + 1) + fib (n + 2)
    have := fib_le n
    have h2 : fib (n + 2) = fib n + fib (n + 1) := rfl
    omega
theorem fib_mono {m n : Nat} (h : m ≤ n) : fib m ≤ fib n := by
  induction h with
  | refl => exact Nat.le_refl _
  | step _ ih => exact Nat.le_trans ih (fib_le _)
theorem WF.dep0 {counts : List Int} : ∀ {t : T}, WF counts t → 0 ≤ dep t
  | .leaf _ _, _ => Int.le_refl _
  | .node c pa a pb b d, h => by
    have h1 := WF.dep0 h.2.2.1
    have h2 := h.2.1
    show 0 ≤ d
    omega
theorem WF.cnt1 {counts : List Int} : ∀ {t : T}, WF counts t → 1 ≤ cnt t
  | .leaf _ _, h => h.2.2
  | .node c pa a pb b d, h => by
    have h1 := WF.cnt1 h.2.2.1
    have h2 := WF.cnt1 h.2.2.2
    have h3 := h.1
    show 1 ≤ c
    omega
theorem WF.join {counts : List Int} {a b : T} (ha : WF counts a) (hb : WF counts b) (pa pb : Nat) : WF counts (hl.join pa a pb b) := ⟨rfl, rfl, ha, hb⟩
/-- not too deep for how often it comes -/
def Fb (t : T) : Prop := (fib (dep t + 1).toNat : Int) ≤ cnt t ∧ (fib (dep t).toNat : Int) ≤ sub t
theorem Fb.leaf {c : Int} {s : Nat} (h : 1 ≤ c) : Fb (.leaf c s) := ⟨h, Int.le_refl _⟩
theorem Fb.join {a b : T} (ha : Fb a) (hb : Fb b) (da : 0 ≤ dep a) (db : 0 ≤ dep b) (h1 : sub a ≤ cnt b) (h2 : sub b ≤ cnt a) (pa pb : Nat) : Fb (hl.join pa a pb b) := by
  have key : ∀ (x y : T), Fb x → 0 ≤ dep x → sub x ≤ cnt y → (fib (dep x + 1 + 1).toNat : Int) ≤ cnt x + cnt y ∧ (fib (dep x + 1).toNat : Int) ≤ cnt x := fun x y hx dx hs => by
    refine ⟨?_, hx.1⟩
    have e : (dep x + 1 + 1).toNat = (dep x).toNat + 2 := by omega
    have e1 : (dep x + 1).toNat = (dep x).toNat + 1 := by omega
    have hx1 := hx.1
    have hx2 := hx.2
    rw [e1] at hx1
    rw [e]
    show ((fib (dep x).toNat + fib ((dep x).toNat + 1) : Nat) : Int) ≤ _
    omega
  show (fib (max (dep a) (dep b) + 1 + 1).toNat : Int) ≤ cnt a + cnt b ∧ (fib (max (dep a) (dep b) + 1).toNat : Int) ≤ max (cnt a) (cnt b)
  by_cases c : dep b ≤ dep a
  · have k := key a b ha da h1
    rw [show max (dep a) (dep b) = dep a by omega]
    exact ⟨k.1, by omega⟩
  · have k := key b a hb db h2
    rw [show max (dep a) (dep b) = dep b by omega]
    exact ⟨by omega, by omega⟩
theorem Fb.dep_le {t : T} (h : Fb t) (hc : cnt t ≤ 67108864) : dep t ≤ 38 := by
  by_cases c : dep t ≤ 38
  · exact c
  · have h1 : fib 40 ≤ fib (dep t + 1).toNat := fib_mono (by omega)
    have h2 : fib 40 = 102334155 := by decide +kernel
    have := h.1
    omega

/-! ### The least cost -/
def sort (l : List Int) : List Int := l.mergeSort (fun a b => decide (a ≤ b))
theorem sort_perm (l : List Int) : (sort l).Perm l := List.mergeSort_perm l _
theorem sort_sorted (l : List Int) : (sort l).Pairwise (· ≤ ·) := by
  have h := List.pairwise_mergeSort (le := fun a b : Int => decide (a ≤ b)) (fun a b c h1 h2 => by simp at *; omega) (fun a b => by simp; omega) l
  exact h.imp (fun h => by simpa using h)
theorem sorted_unique : ∀ {l m : List Int}, l.Pairwise (· ≤ ·) → m.Pairwise (· ≤ ·) → l.Perm m → l = m
  | [], m, _, _, h => by rw [List.nil_perm.1 h]
  | x :: l, [], _, _, h => by simpa using h.length_eq
  | x :: l, y :: m, hl, hm, h => by
    have hx : x ∈ y :: m := h.subset (List.mem_cons_self ..)
    have hy : y ∈ x :: l := h.symm.subset (List.mem_cons_self ..)
    have e : x = y := by
      rcases List.mem_cons.1 hx with e | e
      · exact e
      · rcases List.mem_cons.1 hy with e2 | e2
        · exact e2.symm
        · have h1 := (List.pairwise_cons.1 hl).1 y e2
          have h2 := (List.pairwise_cons.1 hm).1 x e
          omega
    subst e
    rw [sorted_unique (List.pairwise_cons.1 hl).2 (List.pairwise_cons.1 hm).2 h.cons_inv]
theorem sort_congr {l m : List Int} (h : l.Perm m) : sort l = sort m := sorted_unique (sort_sorted l) (sort_sorted m) ((sort_perm l).trans (h.trans (sort_perm m).symm))
def hcF : Nat → List Int → Int
  | 0, _ => 0
  | n + 1, l => match sort l with
    | x :: y :: r => (x + y) + hcF n ((x + y) :: r)
    | _ => 0
def hc (l : List Int) : Int := hcF l.length l
theorem hcF_congr {n : Nat} {l m : List Int} (h : l.Perm m) : hcF n l = hcF n m := by
  cases n with
  | zero => rfl
  | succ n => unfold hcF; rw [sort_congr h]
theorem hc_congr {l m : List Int} (h : l.Perm m) : hc l = hc m := by unfold hc; rw [h.length_eq]; exact hcF_congr h
theorem hc_two {l r : List Int} {a b : Int} (h : l.Perm (a :: b :: r)) (hab : a ≤ b) (hb : ∀ x ∈ r, b ≤ x) : hc l = (a + b) + hc ((a + b) :: r) := by
  have e : sort l = a :: b :: sort r := by
    refine sorted_unique (sort_sorted l) ?_ ((sort_perm l).trans (h.trans (((sort_perm r).symm.cons b).cons a)))
    refine List.pairwise_cons.2 ⟨fun x hx => ?_, List.pairwise_cons.2 ⟨fun x hx => hb x ((sort_perm r).subset hx), sort_sorted r⟩⟩
    rcases List.mem_cons.1 hx with e | e
    · omega
    · have := hb x ((sort_perm r).subset e); omega
  rw [hc_congr h]
  have e2 : hc (a :: b :: r) = hcF (r.length + 1 + 1) (a :: b :: r) := rfl
  rw [e2, hcF, ← sort_congr h, e]
  show (a + b) + hcF (r.length + 1) ((a + b) :: sort r) = _
  rw [hcF_congr ((sort_perm r).cons (a + b))]
  rfl
theorem hc_few {l : List Int} (h : l.length ≤ 1) : hc l = 0 := by
  match l, h with
  | [], _ => rfl
  | [x], _ =>
    have e : sort [x] = [x] := sorted_unique (sort_sorted _) (List.pairwise_singleton _ _) (sort_perm _)
    show hcF 1 [x] = 0
    rw [hcF, e]

/-! ### A forest -/
def pos (counts : List Int) : List Nat := (List.range counts.length).filter fun s => decide (0 < counts.getD s 0)
def Sep (a b : T) : Prop := sub a ≤ cnt b ∧ sub b ≤ cnt a
structure FI (counts : List Int) (ts : List T) : Prop where
  wf : ∀ t ∈ ts, WF counts t
  fb : ∀ t ∈ ts, Fb t
  sep : ts.Pairwise Sep
  syms : (ts.flatMap symsT).Perm (pos counts)
  pay : (ts.map cost).sum + hc (ts.map cnt) = hc ((pos counts).map fun s => counts.getD s 0)
  tot : (ts.map cnt).sum = ((pos counts).map fun s => counts.getD s 0).sum
theorem perm_sum {l m : List Int} (h : l.Perm m) : l.sum = m.sum := by
  induction h with
  | nil => rfl
  | cons x _ ih => rw [List.sum_cons, List.sum_cons, ih]
  | swap x y l => rw [List.sum_cons, List.sum_cons, List.sum_cons, List.sum_cons]; omega
  | trans _ _ h1 h2 => rw [h1, h2]
theorem FI.perm {counts : List Int} {ts us : List T} (h : FI counts ts) (hp : us.Perm ts) : FI counts us := by
  refine ⟨fun t ht => h.wf t (hp.subset ht), fun t ht => h.fb t (hp.subset ht), (List.Perm.pairwise_iff (fun {a b} (h : Sep a b) => ⟨h.2, h.1⟩) hp).2 h.sep, (hp.flatMap_right _).trans h.syms, ?_, ?_⟩
  · rw [← h.pay, hc_congr (hp.map cnt), perm_sum (hp.map cost)]
  · rw [← h.tot, perm_sum (hp.map cnt)]
theorem FI.start (counts : List Int) : FI counts ((pos counts).map fun s => T.leaf (counts.getD s 0) s) := by
  have hpos : ∀ s ∈ pos counts, s < counts.length ∧ 0 < counts.getD s 0 := fun s hs => by
    unfold pos at hs
    rw [List.mem_filter, List.mem_range] at hs
    exact ⟨hs.1, by simpa using hs.2⟩
  refine ⟨fun t ht => ?_, fun t ht => ?_, ?_, ?_, ?_, ?_⟩
  · obtain ⟨s, hs, rfl⟩ := List.mem_map.1 ht
    exact ⟨(hpos s hs).1, rfl, (hpos s hs).2⟩
  · obtain ⟨s, hs, rfl⟩ := List.mem_map.1 ht
    exact Fb.leaf (hpos s hs).2
  · rw [List.pairwise_map]
    refine List.Pairwise.imp_of_mem ?_ (List.pairwise_of_forall (R := fun _ _ => True) (fun _ _ => trivial))
    intro s t hs ht _
    exact ⟨by show 0 ≤ counts.getD t 0; have := (hpos t ht).2; omega, by show 0 ≤ counts.getD s 0; have := (hpos s hs).2; omega⟩
  · rw [List.flatMap_map]
    have : (pos counts).flatMap (fun s => symsT (T.leaf (counts.getD s 0) s)) = pos counts := by
      show (pos counts).flatMap (fun s => [s]) = pos counts
      simp
    rw [this]
  · rw [List.map_map, List.map_map]
    have e1 : ((pos counts).map (cost ∘ fun s => T.leaf (counts.getD s 0) s)).sum = 0 := by
      induction pos counts with
      | nil => rfl
      | cons s l ih => rw [List.map_cons, List.sum_cons, ih]; rfl
    rw [e1, Int.zero_add]
    rfl
  · rw [List.map_map]
    rfl
theorem FI.step {counts : List Int} {ts r : List T} {a b : T} (h : FI counts ts) (hp : ts.Perm (a :: b :: r)) (ha : ∀ t ∈ ts, cnt a ≤ cnt t) (hb : ∀ t ∈ r, cnt b ≤ cnt t) (pa pb : Nat) : FI counts (join pa a pb b :: r) := by
  have h2 := h.perm hp.symm
  have hs := h2.sep
  rw [List.pairwise_cons, List.pairwise_cons] at hs
  obtain ⟨hs1, hs2, hs3⟩ := hs
  have wa := h2.wf a (by simp)
  have wb := h2.wf b (by simp)
  have hsab := hs1 b (by simp)
  have hab : cnt a ≤ cnt b := ha b (hp.symm.subset (by simp))
  refine ⟨fun t ht => ?_, fun t ht => ?_, ?_, ?_, ?_, ?_⟩
  · rcases List.mem_cons.1 ht with rfl | e
    · exact wa.join wb pa pb
    · exact h2.wf t (by simp [e])
  · rcases List.mem_cons.1 ht with rfl | e
    · exact (h2.fb a (by simp)).join (h2.fb b (by simp)) wa.dep0 wb.dep0 hsab.1 hsab.2 pa pb
    · exact h2.fb t (by simp [e])
  · refine List.pairwise_cons.2 ⟨fun u hu => ?_, hs3⟩
    have h1 := hb u hu
    have h3 := (hs1 u (by simp [hu])).2
    have h4 := wb.cnt1
    exact ⟨by show max (cnt a) (cnt b) ≤ cnt u; omega, by show sub u ≤ cnt a + cnt b; omega⟩
  · have e := h2.syms
    rw [List.flatMap_cons, List.flatMap_cons, ← List.append_assoc] at e
    rw [List.flatMap_cons]
    exact e
  · have e := h2.pay
    rw [List.map_cons, List.map_cons, List.map_cons, List.map_cons, List.sum_cons, List.sum_cons] at e
    rw [hc_two (List.Perm.refl _) hab (fun x hx => by obtain ⟨t, ht, rfl⟩ := List.mem_map.1 hx; exact hb t ht)] at e
    rw [List.map_cons, List.map_cons, List.sum_cons]
    show cnt a + cnt b + cost a + cost b + (r.map cost).sum + hc ((cnt a + cnt b) :: r.map cnt) = _
    omega
  · have e := h2.tot
    rw [List.map_cons, List.map_cons, List.sum_cons, List.sum_cons] at e
    rw [List.map_cons, List.sum_cons]
    show cnt a + cnt b + (r.map cnt).sum = _
    omega

/-! ### The lengths -/
def dot : List Int → List Int → Int
  | x :: l, y :: m => x * y + dot l m
  | _, _ => 0
theorem dot_set : ∀ (l m : List Int) (i : Nat) (v : Int), i < l.length → i < m.length → dot (l.set i v) m = dot l m + (v - l.getD i 0) * m.getD i 0
  | [], _, _, _, h, _ => by simp at h
  | _ :: _, [], _, _, _, h => by simp at h
  | x :: l, y :: m, 0, v, _, _ => by
    show v * y + dot l m = x * y + dot l m + (v - x) * y
    rw [Int.sub_mul]
    omega
  | x :: l, y :: m, i + 1, v, h1, h2 => by
    show x * y + dot (l.set i v) m = x * y + dot l m + (v - l.getD i 0) * m.getD i 0
    rw [dot_set l m i v (by simpa using h1) (by simpa using h2)]
    omega
def kp (n : Int) : Nat := if 0 < n then hf.part n else 0
def ks (l : List Int) : Nat := (l.map kp).sum
theorem ks_set : ∀ (l : List Int) (i : Nat) (v : Int), i < l.length → ks (l.set i v) + kp (l.getD i 0) = ks l + kp v
  | [], _, _, h => by simp at h
  | x :: l, 0, v, _ => by
    show ks (v :: l) + kp x = ks (x :: l) + kp v
    unfold ks
    rw [List.map_cons, List.map_cons, List.sum_cons, List.sum_cons]
    omega
  | x :: l, i + 1, v, h => by
    have ih := ks_set l i v (by simpa using h)
    have e : (x :: l).getD (i + 1) 0 = l.getD i 0 := rfl
    rw [List.set_cons_succ, e]
    unfold ks at ih ⊢
    rw [List.map_cons, List.map_cons, List.sum_cons, List.sum_cons]
    omega
theorem ks_syms (l : List Int) : hf.sumP (hf.partOf l) (hf.syms l) = ks l := by
  have key : ∀ k, k ≤ l.length → hf.sumP (hf.partOf l) (hf.symsTo l k) = ((l.take k).map kp).sum := by
    intro k
    induction k with
    | zero => intro _; rfl
    | succ k ih =>
      intro hk
      rw [hf.symsTo_succ, hf.sumP_append, ih (by omega), List.take_add_one, List.getElem?_eq_getElem (by omega), List.map_append, List.sum_append]
      congr 1
      have e : l.getD k 0 = l[k] := by rw [List.getD_eq_getElem?_getD, List.getElem?_eq_getElem (by omega)]; rfl
      rw [e]
      show _ = (kp l[k] + 0)
      unfold kp
      split
      · rw [hf.sumP_one]
        unfold hf.partOf
        rw [hf.len_nat, e]
        rfl
      · rfl
  rw [← hf.symsTo_end, key _ (Nat.le_refl _), List.take_length]
  rfl
theorem lay_length : ∀ (t : T) (d : Int) (out : List Int), (lay t d out).length = out.length
  | .leaf _ _, _, _ => List.length_set
  | .node _ _ a _ b _, d, out => by rw [lay, lay_length b, lay_length a]
theorem getD_set0 {l : List Int} {i k : Nat} {x : Int} (h : i < l.length) : (l.set i x).getD k 0 = if k = i then x else l.getD k 0 := by
  rw [List.getD_eq_getElem?_getD, List.getD_eq_getElem?_getD]
  by_cases e : k = i
  · subst e
    rw [if_pos rfl, List.getElem?_set_self h]
    rfl
  · rw [if_neg e, List.getElem?_set_ne (fun x => e x.symm)]
theorem WF.syms {counts : List Int} : ∀ {t : T}, WF counts t → ∀ s ∈ symsT t, s < counts.length
  | .leaf _ _, h, s, hs => by
    rw [symsT, List.mem_singleton] at hs
    subst hs
    exact h.1
  | .node _ _ a _ b _, h, s, hs => by
    rw [symsT, List.mem_append] at hs
    rcases hs with hs | hs
    · exact WF.syms h.2.2.1 s hs
    · exact WF.syms h.2.2.2 s hs
theorem lay_not {counts : List Int} : ∀ (t : T) (d : Int) (out : List Int), WF counts t → out.length = counts.length → ∀ s, s ∉ symsT t → (lay t d out).getD s 0 = out.getD s 0
  | .leaf c x, d, out, h, hl, s, hs => by
    rw [lay, getD_set0 (by rw [hl]; exact h.1), if_neg (fun e => hs (by rw [symsT, e]; simp))]
  | .node c pa a pb b e, d, out, h, hl, s, hs => by
    rw [symsT, List.mem_append] at hs
    rw [lay, lay_not b (d + 1) _ h.2.2.2 (by rw [lay_length, hl]) s (fun e => hs (.inr e)), lay_not a (d + 1) out h.2.2.1 hl s (fun e => hs (.inl e))]
theorem lay_in {counts : List Int} : ∀ (t : T) (d : Int) (out : List Int), WF counts t → out.length = counts.length → ∀ s, s ∈ symsT t → d ≤ (lay t d out).getD s 0 ∧ (lay t d out).getD s 0 ≤ d + dep t ∧ (0 < dep t → d + 1 ≤ (lay t d out).getD s 0)
  | .leaf c x, d, out, h, hl, s, hs => by
    rw [symsT, List.mem_singleton] at hs
    subst hs
    rw [lay, getD_set0 (by rw [hl]; exact h.1), if_pos rfl]
    show d ≤ d ∧ d ≤ d + 0 ∧ (0 < (0 : Int) → _)
    omega
  | .node c pa a pb b e, d, out, h, hl, s, hs => by
    have he : e = max (dep a) (dep b) + 1 := h.2.1
    rw [lay]
    show d ≤ _ ∧ _ ≤ d + e ∧ (0 < e → _)
    by_cases c2 : s ∈ symsT b
    · have := lay_in b (d + 1) (lay a (d + 1) out) h.2.2.2 (by rw [lay_length, hl]) s c2
      omega
    · rw [lay_not b (d + 1) _ h.2.2.2 (by rw [lay_length, hl]) s c2]
      rw [symsT, List.mem_append] at hs
      have := lay_in a (d + 1) out h.2.2.1 hl s (hs.resolve_right c2)
      omega
theorem lay_dot {counts : List Int} : ∀ (t : T) (d : Int) (out : List Int), WF counts t → out.length = counts.length → (symsT t).Nodup → (∀ s ∈ symsT t, out.getD s 0 = 0) → dot (lay t d out) counts = dot out counts + d * cnt t + cost t
  | .leaf c x, d, out, h, hl, hn, hz => by
    rw [lay, dot_set _ _ _ _ (by rw [hl]; exact h.1) h.1, hz x (by rw [symsT]; simp), h.2.1]
    show _ = _ + d * c + 0
    rw [Int.sub_zero, Int.add_zero]
  | .node c pa a pb b e, d, out, h, hl, hn, hz => by
    rw [symsT, List.nodup_append] at hn
    rw [lay, lay_dot b (d + 1) _ h.2.2.2 (by rw [lay_length, hl]) hn.2.1 (fun s hs => by
      rw [lay_not a (d + 1) out h.2.2.1 hl s (fun e => hn.2.2 s e s hs rfl)]
      exact hz s (by rw [symsT]; simp [hs])), lay_dot a (d + 1) out h.2.2.1 hl hn.1 (fun s hs => hz s (by rw [symsT]; simp [hs]))]
    show _ = _ + d * c + (c + cost a + cost b)
    have hc : c = cnt a + cnt b := h.1
    rw [hc, Int.mul_add, Int.add_mul, Int.add_mul]
    omega
theorem part_two {d : Int} (h0 : 0 ≤ d) (h : d + 1 ≤ 40) : hf.part (d + 1) + hf.part (d + 1) = hf.part d := by
  unfold hf.part
  rw [show 40 - d.toNat = (40 - (d + 1).toNat) + 1 by omega, Nat.pow_succ]
  omega
theorem lay_ks {counts : List Int} : ∀ (t : T) (d : Int) (out : List Int), WF counts t → out.length = counts.length → (symsT t).Nodup → (∀ s ∈ symsT t, out.getD s 0 = 0) → 0 ≤ d → 0 < d + dep t → d + dep t ≤ 40 → ks (lay t d out) = ks out + hf.part d
  | .leaf c x, d, out, h, hl, hn, hz, h0, h1, h2 => by
    have e := ks_set out x d (by rw [hl]; exact h.1)
    rw [hz x (by rw [symsT]; simp)] at e
    rw [lay]
    have h1' : 0 < d + 0 := h1
    have e2 : kp 0 = 0 := rfl
    have e3 : kp d = hf.part d := by unfold kp; rw [if_pos (by omega)]
    omega
  | .node c pa a pb b e, d, out, h, hl, hn, hz, h0, h1, h2 => by
    have he : e = max (dep a) (dep b) + 1 := h.2.1
    have da := h.2.2.1.dep0
    have db := h.2.2.2.dep0
    have h2' : d + e ≤ 40 := h2
    rw [symsT, List.nodup_append] at hn
    rw [lay, lay_ks b (d + 1) _ h.2.2.2 (by rw [lay_length, hl]) hn.2.1 (fun s hs => by
      rw [lay_not a (d + 1) out h.2.2.1 hl s (fun e => hn.2.2 s e s hs rfl)]
      exact hz s (by rw [symsT]; simp [hs])) (by omega) (by omega) (by omega), lay_ks a (d + 1) out h.2.2.1 hl hn.1 (fun s hs => hz s (by rw [symsT]; simp [hs])) (by omega) (by omega) (by omega)]
    rw [Nat.add_assoc, part_two h0 (by omega)]
theorem mem_pos {counts : List Int} {s : Nat} : s ∈ pos counts ↔ s < counts.length ∧ 0 < counts.getD s 0 := by
  unfold pos
  rw [List.mem_filter, List.mem_range]
  simp
theorem pos_nodup (counts : List Int) : (pos counts).Nodup := List.nodup_range.filter _
theorem getD_le {counts : List Int} {b : Int} (hb : 0 ≤ b) (h : ∀ n ∈ counts, n ≤ b) (s : Nat) : counts.getD s 0 ≤ b := by
  rw [List.getD_eq_getElem?_getD]
  cases e : counts[s]? with
  | none => exact hb
  | some x => exact h x (List.mem_of_getElem? e)
theorem sum_le {b : Int} : ∀ {l : List Int}, (∀ x ∈ l, x ≤ b) → l.sum ≤ b * l.length
  | [], _ => by simp
  | x :: l, h => by
    have ih := sum_le (l := l) fun y hy => h y (by simp [hy])
    have hx := h x (by simp)
    rw [List.sum_cons, List.length_cons, Int.natCast_add, Int.mul_add]
    omega
theorem dot_zero : ∀ (n : Nat) (m : List Int), dot (List.replicate n 0) m = 0
  | 0, _ => rfl
  | _ + 1, [] => rfl
  | n + 1, y :: m => by
    rw [List.replicate_succ]
    show 0 * y + dot (List.replicate n 0) m = 0
    rw [dot_zero n m]
    omega
theorem ks_zero : ∀ n : Nat, ks (List.replicate n 0) = 0
  | 0 => rfl
  | n + 1 => by
    rw [List.replicate_succ]
    show kp 0 + ks (List.replicate n 0) = 0
    rw [ks_zero n]
    rfl
theorem getD_rep (n s : Nat) : (List.replicate n (0 : Int)).getD s 0 = 0 := by
  rw [List.getD_eq_getElem?_getD, List.getElem?_replicate]
  split <;> rfl
/-- what the law asks of lengths -/
structure Good (counts out : List Int) (cost : Int) : Prop where
  len : out.length = counts.length
  of : ∀ i, i < counts.length → (0 < out.getD i 0 ↔ 0 < counts.getD i 0)
  fits : hf.fits out
  cost : dot out counts = cost
theorem fits_of {out : List Int} (h1 : out.length ≤ 64) (h2 : ∀ i, 0 ≤ out.getD i 0 ∧ out.getD i 0 ≤ 40) (h3 : ks out ≤ 1099511627776) : hf.fits out := by
  refine ⟨h1, fun n hn => ?_, by rw [ks_syms]; exact h3⟩
  obtain ⟨i, hi⟩ := List.mem_iff_getElem?.1 hn
  have := h2 i
  rw [List.getD_eq_getElem?_getD, hi] at this
  exact this
theorem FI.total {counts : List Int} {t : T} (h : FI counts [t]) (hn : counts.length ≤ 64) (hr : ∀ n ∈ counts, n ≤ 1048576) : cnt t ≤ 67108864 := by
  have e := h.tot
  have e2 : ([t].map cnt).sum = cnt t := by simp
  rw [e2] at e
  have hl : (pos counts).length ≤ counts.length := by
    unfold pos
    refine Nat.le_trans (List.length_filter_le ..) ?_
    rw [List.length_range]
    exact Nat.le_refl _
  have := sum_le (l := (pos counts).map fun s => counts.getD s 0) (b := 1048576) (fun x hx => by
    obtain ⟨s, _, rfl⟩ := List.mem_map.1 hx
    exact getD_le (by omega) hr s)
  rw [List.length_map] at this
  omega
theorem good_tree {counts : List Int} {t : T} (h : FI counts [t]) (hn : counts.length ≤ 64) (hr : ∀ n ∈ counts, n ≤ 1048576) (hd : 0 < dep t) :
    Good counts (lay t 0 (List.replicate counts.length 0)) (hc ((pos counts).map fun s => counts.getD s 0)) ∧ dep t ≤ 38 := by
  have hw := h.wf t (by simp)
  have hdep := (h.fb t (by simp)).dep_le (h.total hn hr)
  have hsy : (symsT t).Perm (pos counts) := by simpa using h.syms
  have hnd : (symsT t).Nodup := hsy.nodup_iff.2 (pos_nodup counts)
  have hlr : (List.replicate counts.length (0 : Int)).length = counts.length := List.length_replicate
  have hks := lay_ks t 0 (List.replicate counts.length 0) hw hlr hnd (fun s _ => getD_rep _ s) (Int.le_refl _) (by omega) (by omega)
  have hdo := lay_dot t 0 (List.replicate counts.length 0) hw hlr hnd (fun s _ => getD_rep _ s)
  have hin := lay_in t 0 (List.replicate counts.length 0) hw hlr
  have hno := lay_not t 0 (List.replicate counts.length 0) hw hlr
  have hln := lay_length t 0 (List.replicate counts.length 0)
  rw [hlr] at hln
  rw [ks_zero] at hks
  rw [dot_zero] at hdo
  have hpay := h.pay
  have e2 : ([t].map cost).sum = cost t := by simp
  rw [e2, hc_few (l := [t].map cnt) (by simp)] at hpay
  refine ⟨⟨hln, fun i hi => ?_, fits_of (by omega) (fun i => ?_) ?_, by omega⟩, hdep⟩
  · by_cases c : i ∈ symsT t
    · have h1 := hin i c
      have h2 := (mem_pos.1 (hsy.subset c)).2
      constructor
      · intro _; exact h2
      · intro _; omega
    · rw [hno i c, getD_rep]
      constructor
      · intro e; omega
      · intro e
        exact absurd (hsy.symm.subset (mem_pos.2 ⟨hi, e⟩)) c
  · by_cases c : i ∈ symsT t
    · have h1 := hin i c
      omega
    · rw [hno i c, getD_rep]
      omega
  · rw [hks]
    have := hf.part_le 0
    omega
theorem good_one {counts : List Int} {s : Nat} (h : pos counts = [s]) (hn : counts.length ≤ 64) : Good counts ((List.replicate counts.length 0).set s 1) (counts.getD s 0) := by
  have hs := mem_pos.1 (by rw [h]; simp : s ∈ pos counts)
  have hlr : (List.replicate counts.length (0 : Int)).length = counts.length := List.length_replicate
  have hg := fun k => getD_set0 (l := List.replicate counts.length 0) (i := s) (k := k) (x := 1) (by rw [hlr]; exact hs.1)
  refine ⟨by rw [List.length_set, hlr], fun i hi => ?_, fits_of (by rw [List.length_set, hlr]; exact hn) (fun i => ?_) ?_, ?_⟩
  · rw [hg]
    by_cases c : i = s
    · rw [if_pos c, c]
      constructor
      · intro _; exact hs.2
      · intro _; omega
    · rw [if_neg c, getD_rep]
      constructor
      · intro e; omega
      · intro e
        have := mem_pos.2 ⟨hi, e⟩
        rw [h] at this
        exact absurd (List.mem_singleton.1 this) c
  · rw [hg]
    split
    · omega
    · rw [getD_rep]; omega
  · have e := ks_set (List.replicate counts.length 0) s 1 (by rw [hlr]; exact hs.1)
    rw [ks_zero, getD_rep] at e
    have e2 : kp 0 = 0 := rfl
    have e3 : kp 1 = hf.part 1 := rfl
    have := hf.part_le 1
    omega
  · rw [dot_set _ _ _ _ (by rw [hlr]; exact hs.1) hs.1, dot_zero, getD_rep]
    omega
theorem good_none {counts : List Int} (h : pos counts = []) (hn : counts.length ≤ 64) : Good counts (List.replicate counts.length 0) 0 := by
  refine ⟨List.length_replicate, fun i hi => ?_, fits_of (by rw [List.length_replicate]; exact hn) (fun i => by rw [getD_rep]; omega) (by rw [ks_zero]; omega), dot_zero _ _⟩
  rw [getD_rep]
  constructor
  · intro e; omega
  · intro e
    have := mem_pos.2 ⟨hi, e⟩
    rw [h] at this
    cases this
end Go.Proofs.Ytkbmpppendelcaa.hl
end
section
namespace Go.Proofs.Ytkbmpppendelcaa.hf

/-- eight bits make a byte, the first the highest -/
def byteAt (B : List Nat) (i : Nat) : Nat := B.getD (8 * i) 0 * 128 + B.getD (8 * i + 1) 0 * 64 + B.getD (8 * i + 2) 0 * 32 + B.getD (8 * i + 3) 0 * 16 + B.getD (8 * i + 4) 0 * 8 + B.getD (8 * i + 5) 0 * 4 + B.getD (8 * i + 6) 0 * 2 + B.getD (8 * i + 7) 0
def packN (N : Nat) (B : List Nat) : List Nat := (List.range N).map (byteAt B)
def pack (B : List Nat) : List Nat := packN ((B.length + 7) / 8) B
def Bits (B : List Nat) : Prop := ∀ x ∈ B, x ≤ 1
theorem packN_len (N : Nat) (B : List Nat) : (packN N B).length = N := by unfold packN; simp
theorem packN_at {N : Nat} {B : List Nat} {i : Nat} (h : i < N) : (packN N B)[i]? = some (byteAt B i) := by unfold packN; rw [List.getElem?_map, List.getElem?_range h]; rfl
theorem getD_end {B : List Nat} {i : Nat} (h : B.length ≤ i) : B.getD i 0 = 0 := by rw [List.getD_eq_getElem?_getD, List.getElem?_eq_none h]; rfl
theorem getD_le {B : List Nat} (h : Bits B) (i : Nat) : B.getD i 0 ≤ 1 := by
  by_cases hi : i < B.length
  · rw [List.getD_eq_getElem?_getD, List.getElem?_eq_getElem hi]; exact h _ (List.getElem_mem hi)
  · rw [getD_end (by omega)]; omega
theorem getD_snoc (B : List Nat) (x i : Nat) : (B ++ [x]).getD i 0 = B.getD i 0 + if i = B.length then x else 0 := by
  rw [List.getD_eq_getElem?_getD, List.getD_eq_getElem?_getD]
  by_cases h : i < B.length
  · rw [List.getElem?_append_left h, if_neg (by omega), Nat.add_zero]
  · by_cases e : i = B.length
    · subst e; rw [List.getElem?_append_right (Nat.le_refl _), Nat.sub_self, if_pos rfl, List.getElem?_eq_none (Nat.le_refl _)]; simp
    · rw [if_neg e, List.getElem?_eq_none (by simp; omega), List.getElem?_eq_none (by omega)]; rfl
theorem byteAt_le {B : List Nat} (h : Bits B) (i : Nat) : byteAt B i ≤ 255 := by
  have := getD_le h (8 * i); have := getD_le h (8 * i + 1); have := getD_le h (8 * i + 2); have := getD_le h (8 * i + 3)
  have := getD_le h (8 * i + 4); have := getD_le h (8 * i + 5); have := getD_le h (8 * i + 6); have := getD_le h (8 * i + 7)
  unfold byteAt
  omega
theorem byteAt_snoc (B : List Nat) (x i : Nat) : byteAt (B ++ [x]) i = byteAt B i + if i = B.length / 8 then x * 2 ^ (7 - B.length % 8) else 0 := by
  unfold byteAt
  simp only [getD_snoc]
  by_cases h : i = B.length / 8
  · rw [if_pos h]
    have hr : B.length % 8 < 8 := Nat.mod_lt _ (by decide)
    have hd := Nat.div_add_mod B.length 8
    rw [← h] at hd
    generalize B.length % 8 = r at *
    have c : r = 0 ∨ r = 1 ∨ r = 2 ∨ r = 3 ∨ r = 4 ∨ r = 5 ∨ r = 6 ∨ r = 7 := by omega
    rcases c with rfl | rfl | rfl | rfl | rfl | rfl | rfl | rfl
    · simp only [show (8 * i = B.length) = True by simp; omega, show (8 * i + 1 = B.length) = False by simp; omega, show (8 * i + 2 = B.length) = False by simp; omega, show (8 * i + 3 = B.length) = False by simp; omega, show (8 * i + 4 = B.length) = False by simp; omega, show (8 * i + 5 = B.length) = False by simp; omega, show (8 * i + 6 = B.length) = False by simp; omega, show (8 * i + 7 = B.length) = False by simp; omega, if_true, if_false]; omega
    · simp only [show (8 * i = B.length) = False by simp; omega, show (8 * i + 1 = B.length) = True by simp; omega, show (8 * i + 2 = B.length) = False by simp; omega, show (8 * i + 3 = B.length) = False by simp; omega, show (8 * i + 4 = B.length) = False by simp; omega, show (8 * i + 5 = B.length) = False by simp; omega, show (8 * i + 6 = B.length) = False by simp; omega, show (8 * i + 7 = B.length) = False by simp; omega, if_true, if_false]; omega
    · simp only [show (8 * i = B.length) = False by simp; omega, show (8 * i + 1 = B.length) = False by simp; omega, show (8 * i + 2 = B.length) = True by simp; omega, show (8 * i + 3 = B.length) = False by simp; omega, show (8 * i + 4 = B.length) = False by simp; omega, show (8 * i + 5 = B.length) = False by simp; omega, show (8 * i + 6 = B.length) = False by simp; omega, show (8 * i + 7 = B.length) = False by simp; omega, if_true, if_false]; omega
    · simp only [show (8 * i = B.length) = False by simp; omega, show (8 * i + 1 = B.length) = False by simp; omega, show (8 * i + 2 = B.length) = False by simp; omega, show (8 * i + 3 = B.length) = True by simp; omega, show (8 * i + 4 = B.length) = False by simp; omega, show (8 * i + 5 = B.length) = False by simp; omega, show (8 * i + 6 = B.length) = False by simp; omega, show (8 * i + 7 = B.length) = False by simp; omega, if_true, if_false]; omega
    · simp only [show (8 * i = B.length) = False by simp; omega, show (8 * i + 1 = B.length) = False by simp; omega, show (8 * i + 2 = B.length) = False by simp; omega, show (8 * i + 3 = B.length) = False by simp; omega, show (8 * i + 4 = B.length) = True by simp; omega, show (8 * i + 5 = B.length) = False by simp; omega, show (8 * i + 6 = B.length) = False by simp; omega, show (8 * i + 7 = B.length) = False by simp; omega, if_true, if_false]; omega
    · simp only [show (8 * i = B.length) = False by simp; omega, show (8 * i + 1 = B.length) = False by simp; omega, show (8 * i + 2 = B.length) = False by simp; omega, show (8 * i + 3 = B.length) = False by simp; omega, show (8 * i + 4 = B.length) = False by simp; omega, show (8 * i + 5 = B.length) = True by simp; omega, show (8 * i + 6 = B.length) = False by simp; omega, show (8 * i + 7 = B.length) = False by simp; omega, if_true, if_false]; omega
    · simp only [show (8 * i = B.length) = False by simp; omega, show (8 * i + 1 = B.length) = False by simp; omega, show (8 * i + 2 = B.length) = False by simp; omega, show (8 * i + 3 = B.length) = False by simp; omega, show (8 * i + 4 = B.length) = False by simp; omega, show (8 * i + 5 = B.length) = False by simp; omega, show (8 * i + 6 = B.length) = True by simp; omega, show (8 * i + 7 = B.length) = False by simp; omega, if_true, if_false]; omega
    · simp only [show (8 * i = B.length) = False by simp; omega, show (8 * i + 1 = B.length) = False by simp; omega, show (8 * i + 2 = B.length) = False by simp; omega, show (8 * i + 3 = B.length) = False by simp; omega, show (8 * i + 4 = B.length) = False by simp; omega, show (8 * i + 5 = B.length) = False by simp; omega, show (8 * i + 6 = B.length) = False by simp; omega, show (8 * i + 7 = B.length) = True by simp; omega, if_true, if_false]; omega
  · rw [if_neg h]
    rw [if_neg (by omega), if_neg (by omega), if_neg (by omega), if_neg (by omega), if_neg (by omega), if_neg (by omega), if_neg (by omega), if_neg (by omega)]
    omega
/-- the low bits are free still -/
theorem byteAt_low (B : List Nat) : byteAt B (B.length / 8) % 2 ^ (8 - B.length % 8) = 0 := by
  have hr : B.length % 8 < 8 := Nat.mod_lt _ (by decide)
  have hd := Nat.div_add_mod B.length 8
  generalize B.length % 8 = r at *
  generalize B.length / 8 = i at *
  have z : ∀ j, r ≤ j → B.getD (8 * i + j) 0 = 0 := fun j hj => getD_end (by omega)
  have z0 : r ≤ 0 → B.getD (8 * i) 0 = 0 := fun h => z 0 h
  unfold byteAt
  have c : r = 0 ∨ r = 1 ∨ r = 2 ∨ r = 3 ∨ r = 4 ∨ r = 5 ∨ r = 6 ∨ r = 7 := by omega
  rcases c with rfl | rfl | rfl | rfl | rfl | rfl | rfl | rfl
  · rw [z0 (by omega), z 1 (by omega), z 2 (by omega), z 3 (by omega), z 4 (by omega), z 5 (by omega), z 6 (by omega), z 7 (by omega)]
  · rw [z 1 (by omega), z 2 (by omega), z 3 (by omega), z 4 (by omega), z 5 (by omega), z 6 (by omega), z 7 (by omega)]; omega
  · rw [z 2 (by omega), z 3 (by omega), z 4 (by omega), z 5 (by omega), z 6 (by omega), z 7 (by omega)]; omega
  · rw [z 3 (by omega), z 4 (by omega), z 5 (by omega), z 6 (by omega), z 7 (by omega)]; omega
  · rw [z 4 (by omega), z 5 (by omega), z 6 (by omega), z 7 (by omega)]; omega
  · rw [z 5 (by omega), z 6 (by omega), z 7 (by omega)]; omega
  · rw [z 6 (by omega), z 7 (by omega)]; omega
  · rw [z 7 (by omega)]; omega
/-- one bit more, in the last byte -/
theorem packN_snoc {N : Nat} {B : List Nat} {x : Nat} : packN N (B ++ [x]) = (packN N B).set (B.length / 8) (byteAt B (B.length / 8) + x * 2 ^ (7 - B.length % 8)) := by
  apply List.ext_getElem?
  intro j
  rw [List.getElem?_set, packN_len]
  by_cases h : j < N
  · rw [packN_at h, packN_at h, byteAt_snoc]
    by_cases e : B.length / 8 = j
    · subst e
      rw [if_pos rfl, if_pos rfl, if_pos h]
    · rw [if_neg e, if_neg (fun x => e x.symm), Nat.add_zero]
  · rw [List.getElem?_eq_none (by rw [packN_len]; omega)]
    by_cases e : B.length / 8 = j
    · subst e; rw [if_pos rfl, if_neg h]
    · rw [if_neg e, List.getElem?_eq_none (by rw [packN_len]; omega)]
theorem packN_last {B : List Nat} (h : B.length % 8 = 0) : packN (B.length / 8 + 1) B = pack B ++ [0] := by
  have e : (B.length + 7) / 8 = B.length / 8 := by omega
  have hz : byteAt B (B.length / 8) = 0 := by
    have hl := byteAt_low B
    unfold byteAt
    have z : ∀ j, B.getD (8 * (B.length / 8) + j) 0 = 0 := fun j => getD_end (by omega)
    rw [show B.getD (8 * (B.length / 8)) 0 = 0 from z 0, z 1, z 2, z 3, z 4, z 5, z 6, z 7]
  unfold pack packN
  rw [e, List.range_succ, List.map_append, List.map_cons, List.map_nil, hz]
theorem pack_mid {B : List Nat} (h : B.length % 8 ≠ 0) : pack B = packN (B.length / 8 + 1) B := by
  unfold pack
  rw [show (B.length + 7) / 8 = B.length / 8 + 1 by omega]
theorem pack_snoc (B : List Nat) (x : Nat) : pack (B ++ [x]) = packN (B.length / 8 + 1) (B ++ [x]) := by
  unfold pack
  rw [List.length_append, List.length_cons, List.length_nil, show (B.length + (0 + 1) + 7) / 8 = B.length / 8 + 1 by omega]
/-- a bit of a number -/
def bit (c k : Nat) : Nat := c / 2 ^ k % 2
theorem bit_le (c k : Nat) : bit c k ≤ 1 := by unfold bit; omega
/-- the first j bits of a code of n bits -/
def bitsOf (c n j : Nat) : List Nat := (List.range j).map fun i => bit c (n - 1 - i)
theorem bitsOf_succ (c n j : Nat) : bitsOf c n (j + 1) = bitsOf c n j ++ [bit c (n - 1 - j)] := by unfold bitsOf; rw [List.range_succ, List.map_append]; rfl
theorem bitsOf_len (c n j : Nat) : (bitsOf c n j).length = j := by unfold bitsOf; simp
def codeBits (l : List Int) (s : Int) : List Nat := bitsOf (codeOf l s).toNat (len l s).toNat (len l s).toNat
def allBits (l : List Int) (S : List Int) : List Nat := S.flatMap (codeBits l)
theorem codeBits_bits (l : List Int) (s : Int) : Bits (codeBits l s) := by
  intro x hx
  unfold codeBits bitsOf at hx
  rw [List.mem_map] at hx
  obtain ⟨i, _, rfl⟩ := hx
  exact bit_le _ _
theorem allBits_bits (l S : List Int) : Bits (allBits l S) := by
  intro x hx
  unfold allBits at hx
  rw [List.mem_flatMap] at hx
  obtain ⟨s, _, h⟩ := hx
  exact codeBits_bits l s x h
theorem Bits.append {A B : List Nat} (h : Bits A) (h2 : Bits B) : Bits (A ++ B) := fun x hx => by
  rcases List.mem_append.1 hx with h3 | h3
  · exact h x h3
  · exact h2 x h3
theorem bitsOf_bits (c n j : Nat) : Bits (bitsOf c n j) := by
  intro x hx
  unfold bitsOf at hx
  rw [List.mem_map] at hx
  obtain ⟨i, _, rfl⟩ := hx
  exact bit_le _ _
/-- a symbol that can be written -/
def has (l : List Int) (s : Int) : Prop := 0 ≤ s ∧ s < l.length ∧ len l s ≠ 0
theorem allBits_take {l S : List Int} {i : Nat} (hi : i < S.length) : allBits l (S.take (i + 1)) = allBits l (S.take i) ++ codeBits l (S.getD i 0) := by
  unfold allBits
  rw [List.take_succ_eq_append_getElem hi, List.flatMap_append, List.getD_eq_getElem?_getD, List.getElem?_eq_getElem hi]
  simp
theorem codeBits_len (l : List Int) (s : Int) : (codeBits l s).length = (len l s).toNat := bitsOf_len _ _ _
/-- free low bits: or is a sum -/
theorem or_sum {v r x : Nat} (hr : r < 8) (hv : v % 2 ^ (8 - r) = 0) (hx : x ≤ 1) : v ||| (x * 2 ^ (7 - r)) = v + x * 2 ^ (7 - r) := by
  have h1 : v = 2 ^ (8 - r) * (v / 2 ^ (8 - r)) := by have := Nat.div_add_mod v (2 ^ (8 - r)); omega
  have h2 : x * 2 ^ (7 - r) < 2 ^ (8 - r) := by
    have e : 2 ^ (8 - r) = 2 * 2 ^ (7 - r) := by rw [show 8 - r = (7 - r) + 1 by omega, Nat.pow_succ]; omega
    have h3 : x * 2 ^ (7 - r) ≤ 1 * 2 ^ (7 - r) := Nat.mul_le_mul_right _ hx
    have h4 : 0 < 2 ^ (7 - r) := Nat.two_pow_pos _
    omega
  rw [h1]
  exact (Nat.two_pow_add_eq_or_of_lt h2 _).symm
theorem packN_zero (N : Nat) (B : List Nat) : packN N (B ++ [0]) = packN N B := by
  unfold packN
  apply List.map_congr_left
  intro j _
  rw [byteAt_snoc]
  split <;> omega
theorem packN_nil (N : Nat) : packN N [] = List.replicate N 0 := by
  unfold packN
  apply List.ext_getElem?
  intro j
  rw [List.getElem?_map, List.getElem?_replicate]
  by_cases h : j < N
  · rw [List.getElem?_range h, if_pos h]; rfl
  · rw [List.getElem?_eq_none (by simpa using h), if_neg h]; rfl
end Go.Proofs.Ytkbmpppendelcaa.hf
end
section
namespace Go.Proofs.Ytkbmpppendelcaa.hf

/-- what stands ahead of a code is a multiple of its part -/
theorem sumP_dvd {f : Int → Nat} {d : Nat} : ∀ {L : List Int}, (∀ x ∈ L, d ∣ f x) → d ∣ sumP f L
  | [], _ => ⟨0, rfl⟩
  | x :: L, h => by
    have e : sumP f (x :: L) = f x + sumP f L := by simp [sumP]
    rw [e]
    exact Nat.dvd_add (h x (by simp)) (sumP_dvd fun y hy => h y (by simp [hy]))
theorem used_dvd {l : List Int} (hft : fits l) {s : Int} (hs : s ∈ syms l) : part (len l s) ∣ used l s := by
  unfold used
  refine sumP_dvd fun t ht => ?_
  rw [List.mem_filter] at ht
  have h1 := fits_len hft ht.1
  have h2 := fits_len hft hs
  have h3 := ahead_iff.1 ht.2
  have hle : len l t ≤ len l s := h3.le
  unfold partOf
  exact ⟨2 ^ (len l s - len l t).toNat, by rw [Nat.mul_comm]; exact (part_shift (by omega) hle h2.2).symm⟩
theorem used_code {l : List Int} (hft : fits l) {s : Int} (hs : s ∈ syms l) : used l s = (codeOf l s).toNat * part (len l s) := by
  have h := fits_len hft hs
  obtain ⟨q, hq⟩ := used_dvd hft hs
  unfold codeOf
  rw [if_neg (by omega), Int.toNat_natCast, hq, Nat.mul_div_cancel_left _ (part_pos _), Nat.mul_comm]
theorem sumP_sub {f : Int → Nat} : ∀ {L : List Int} {p q : Int → Bool} {s : Int}, s ∈ L → q s = true → p s = false → (∀ x ∈ L, p x = true → q x = true) → sumP f (L.filter p) + f s ≤ sumP f (L.filter q)
  | [], _, _, _, h, _, _, _ => by simp at h
  | x :: L, p, q, s, h, hq, hp, hpq => by
    have e : ∀ (M : List Int) y, sumP f (y :: M) = f y + sumP f M := fun M y => by simp [sumP]
    have hmono : sumP f (L.filter p) ≤ sumP f (L.filter q) := by
      have : L.filter p = (L.filter q).filter p := by
        rw [List.filter_filter]
        apply List.filter_congr
        intro y hy
        have := hpq y (by simp [hy])
        cases h1 : p y <;> cases h2 : q y <;> simp_all
      rw [this]
      exact sumP_filter_le f p _
    rcases List.mem_cons.1 h with rfl | h2
    · rw [List.filter_cons, List.filter_cons, hp, hq, if_neg (by simp), if_pos rfl, e]
      omega
    · have ih := sumP_sub (f := f) (p := p) (q := q) h2 hq hp (fun y hy => hpq y (by simp [hy]))
      rw [List.filter_cons, List.filter_cons]
      by_cases h3 : p x = true
      · rw [if_pos h3, if_pos (hpq x (by simp) h3), e, e]
        omega
      · rw [if_neg h3]
        split
        · rw [e]; omega
        · exact ih
theorem used_lt {l : List Int} {s t : Int} (hs : s ∈ syms l) (h : so.lx (len l) s t) : used l s + partOf l s ≤ used l t := by
  unfold used
  refine sumP_sub hs (ahead_iff.2 h) ?_ ?_
  · cases h2 : ahead l s s
    · rfl
    · exact absurd (ahead_iff.1 h2) so.lx.irrefl
  · intro x _ hx
    exact ahead_iff.2 ((ahead_iff.1 hx).trans h)
/-- a code lies below its power of two -/
theorem code_lt {l : List Int} (hft : fits l) {s : Int} (hs : s ∈ syms l) : (codeOf l s).toNat < 2 ^ (len l s).toNat := by
  have h := fits_len hft hs
  have h1 := used_code hft hs
  have h2 : used l s + partOf l s ≤ sumP (partOf l) (syms l) := by
    unfold used
    have h3 := sumP_sub (f := partOf l) (p := ahead l s) (q := fun _ => true) hs rfl (by
      cases h2 : ahead l s s
      · rfl
      · exact absurd (ahead_iff.1 h2) so.lx.irrefl) (fun _ _ _ => rfl)
    have e : (syms l).filter (fun _ => true) = syms l := List.filter_eq_self.2 (fun _ _ => rfl)
    rwa [e] at h3
  have h3 := hft.2.2
  have h4 : 2 ^ (len l s).toNat * part (len l s) = 1099511627776 := by
    unfold part
    rw [← Nat.pow_add, show (len l s).toNat + (40 - (len l s).toNat) = 40 by omega]
  rw [show partOf l s = part (len l s) from rfl, h1] at h2
  generalize part (len l s) = p at *
  generalize (codeOf l s).toNat = c at *
  generalize 2 ^ (len l s).toNat = z at *
  by_cases hcz : c < z
  · exact hcz
  · have : z * p ≤ c * p := Nat.mul_le_mul_right _ (by omega)
    have hp : 0 < p := by
      rcases Nat.eq_zero_or_pos p with rfl | h
      · simp at h4
      · exact h
    omega
theorem lx_total (key : Int → Int) (s t : Int) : so.lx key s t ∨ s = t ∨ so.lx key t s := by unfold so.lx; omega
/-- no code begins another -/
theorem prefix_free {l : List Int} (hft : fits l) {s t : Int} (hs : s ∈ syms l) (ht : t ∈ syms l) (hle : len l s ≤ len l t) (h : (codeOf l t).toNat / 2 ^ (len l t - len l s).toNat = (codeOf l s).toNat) : s = t := by
  have h1 := fits_len hft hs
  have h2 := fits_len hft ht
  have u1 := used_code hft hs
  have u2 := used_code hft ht
  have hsh := part_shift (by omega) hle h2.2
  rcases lx_total (len l) s t with h3 | rfl | h3
  · exfalso
    have h4 := used_lt hs h3
    unfold partOf at h4
    rw [u1, u2, ← hsh] at h4
    generalize (codeOf l s).toNat = c at *
    generalize (codeOf l t).toNat = d at *
    generalize hz : 2 ^ (len l t - len l s).toNat = z at *
    have hp := part_pos (len l t)
    generalize part (len l t) = p at *
    have h5 : (c + 1) * z * p ≤ d * p := by
      have : (c + 1) * z * p = c * (z * p) + z * p := by rw [Nat.add_mul, Nat.add_mul, Nat.one_mul, Nat.mul_assoc]
      omega
    have h6 := Nat.le_of_mul_le_mul_right h5 hp
    have hzp : 0 < z := by rw [← hz]; exact Nat.two_pow_pos _
    have h7 : c + 1 ≤ d / z := (Nat.le_div_iff_mul_le hzp).2 h6
    omega
  · rfl
  · exfalso
    have hlen : len l t = len l s := by have := h3.le; omega
    have h4 := used_lt ht h3
    unfold partOf at h4
    rw [u1, u2, hlen] at h4
    rw [hlen, Int.sub_self, show (0 : Int).toNat = 0 from rfl, Nat.pow_zero, Nat.div_one] at h
    have hp := part_pos (len l s)
    rw [h] at h4
    omega

/-! ### Bits of bytes -/
def bitAt (b : List UInt8) (i : Nat) : Nat := (b.getD (i / 8) 0).toNat / 2 ^ (7 - i % 8) % 2
def numAt (b : List UInt8) (a : Nat) : Nat → Nat
  | 0 => 0
  | k + 1 => 2 * numAt b a k + bitAt b (a + k)
theorem numAt_succ (b : List UInt8) (a k : Nat) : numAt b a (k + 1) = 2 * numAt b a k + bitAt b (a + k) := rfl
theorem bitAt_le (b : List UInt8) (i : Nat) : bitAt b i ≤ 1 := by unfold bitAt; omega
theorem numAt_lt (b : List UInt8) (a : Nat) : ∀ k, numAt b a k < 2 ^ k
  | 0 => by simp [numAt]
  | k + 1 => by
    have h := numAt_lt b a k
    have h2 := bitAt_le b (a + k)
    rw [numAt_succ, Nat.pow_succ]
    omega
/-- one bit more of the same -/
theorem same_step {c n k : Nat} (hk : k < n) (x y : Nat) (hx : x ≤ 1) : 2 * y + x = c / 2 ^ (n - (k + 1)) ↔ y = c / 2 ^ (n - k) ∧ x = bit c (n - 1 - k) := by
  unfold bit
  have e : n - k = (n - (k + 1)) + 1 := by omega
  have e2 : c / 2 ^ (n - k) = c / 2 ^ (n - (k + 1)) / 2 := by rw [e, Nat.pow_succ, Nat.div_div_eq_div_mul]
  rw [e2, show n - 1 - k = n - (k + 1) by omega]
  generalize c / 2 ^ (n - (k + 1)) = z
  omega
/-- the first k bits from a on are those of the code -/
def Same (b : List UInt8) (a c n k : Nat) : Prop := numAt b a k = c / 2 ^ (n - k)
theorem Same.zero {b : List UInt8} {a c n : Nat} (h : c < 2 ^ n) : Same b a c n 0 := by unfold Same numAt; rw [Nat.sub_zero, Nat.div_eq_of_lt h]
theorem Same.succ {b : List UInt8} {a c n k : Nat} (hk : k < n) : Same b a c n (k + 1) ↔ Same b a c n k ∧ bitAt b (a + k) = bit c (n - 1 - k) := by
  unfold Same
  rw [numAt_succ]
  exact same_step hk _ _ (bitAt_le _ _)
theorem Same.mono {b : List UInt8} {a c n : Nat} : ∀ {k j : Nat}, Same b a c n k → j ≤ k → k ≤ n → Same b a c n j
  | 0, j, h, hj, _ => by rw [show j = 0 by omega]; exact h
  | k + 1, j, h, hj, hn => by
    by_cases e : j = k + 1
    · rw [e]; exact h
    · exact Same.mono ((Same.succ (by omega)).1 h).1 (by omega) (by omega)
def lenN (l : List Int) (s : Int) : Nat := (len l s).toNat
def codeN (l : List Int) (s : Int) : Nat := (codeOf l s).toNat
/-- a code stands here whole -/
def Hit (l : List Int) (b : List UInt8) (a : Nat) (s : Int) : Prop := s ∈ syms l ∧ a + lenN l s ≤ 8 * b.length ∧ numAt b a (lenN l s) = codeN l s
/-- a code begins here, and the bytes end -/
def Begun (l : List Int) (b : List UInt8) (a : Nat) (s : Int) : Prop := s ∈ syms l ∧ 8 * b.length < a + lenN l s ∧ Same b a (codeN l s) (lenN l s) (8 * b.length - a)
theorem Hit.same {l : List Int} {b : List UInt8} {a : Nat} {s : Int} : numAt b a (lenN l s) = codeN l s ↔ Same b a (codeN l s) (lenN l s) (lenN l s) := by
  unfold Same; rw [Nat.sub_self, Nat.pow_zero, Nat.div_one]
theorem Hit.unique {l : List Int} {b : List UInt8} {a : Nat} {s t : Int} (hft : fits l) (hs : Hit l b a s) (ht : Hit l b a t) : s = t := by
  have key : ∀ {s t : Int}, Hit l b a s → Hit l b a t → len l s ≤ len l t → s = t := by
    intro s t hs ht hle
    have h1 := fits_len hft hs.1
    have h2 := fits_len hft ht.1
    refine prefix_free hft hs.1 ht.1 hle ?_
    have h3 := Same.mono (Hit.same.1 ht.2.2) (j := lenN l s) (by unfold lenN; omega) (Nat.le_refl _)
    unfold Same at h3
    rw [hs.2.2] at h3
    rw [show (len l t - len l s).toNat = lenN l t - lenN l s by unfold lenN; omega]
    exact h3.symm
  by_cases h : len l s ≤ len l t
  · exact key hs ht h
  · exact (key ht hs (by omega)).symm
open Classical in
/-- what stands at a bit: a symbol, or a fault -/
noncomputable def nextOf (l : List Int) (b : List UInt8) (a : Nat) : Int × Nat × Int :=
  if h : ∃ s, Hit l b a s then (h.choose, lenN l h.choose, 0) else if ∃ s, Begun l b a s then (0, 0, 5) else (0, 0, 7)
theorem nextOf_hit {l : List Int} {b : List UInt8} {a : Nat} {s : Int} (hft : fits l) (h : Hit l b a s) : nextOf l b a = (s, lenN l s, 0) := by
  have hx : ∃ s, Hit l b a s := ⟨s, h⟩
  unfold nextOf
  rw [dif_pos hx, Hit.unique hft hx.choose_spec h]
theorem nextOf_short {l : List Int} {b : List UInt8} {a : Nat} (h : ∀ s, ¬ Hit l b a s) (hb : ∃ s, Begun l b a s) : nextOf l b a = (0, 0, 5) := by
  unfold nextOf
  rw [dif_neg (fun ⟨s, hs⟩ => h s hs), if_pos hb]
theorem nextOf_none {l : List Int} {b : List UInt8} {a : Nat} (h : ∀ s, ¬ Hit l b a s) (hb : ∀ s, ¬ Begun l b a s) : nextOf l b a = (0, 0, 7) := by
  unfold nextOf
  rw [dif_neg (fun ⟨s, hs⟩ => h s hs), if_neg (fun ⟨s, hs⟩ => hb s hs)]
theorem nextOf_bound {l : List Int} {b : List UInt8} {a : Nat} (h : (nextOf l b a).2.2 = 0) : a + (nextOf l b a).2.1 ≤ 8 * b.length := by
  unfold nextOf at *
  split at h
  · next hx => rw [dif_pos hx]; exact hx.choose_spec.2.1
  · next hx =>
    split at h
    · simp at h
    · simp at h
/-- what the search over the first j symbols has found -/
def Found (l : List Int) (b : List UInt8) (a j : Nat) (f : Int) : Prop := (f = -1 ∧ ∀ t : Nat, t < j → ¬ Hit l b a t) ∨ ∃ t : Nat, t < j ∧ Hit l b a t ∧ f = t
def Begs (l : List Int) (b : List UInt8) (a j : Nat) (g : Bool) : Prop := g = true ↔ ∃ t : Nat, t < j ∧ Begun l b a t
theorem Found.zero (l : List Int) (b : List UInt8) (a : Nat) : Found l b a 0 (-1) := .inl ⟨rfl, fun t h => by omega⟩
theorem Begs.zero (l : List Int) (b : List UInt8) (a : Nat) : Begs l b a 0 false := ⟨fun h => (by cases h), fun h => (by obtain ⟨t, h, _⟩ := h; omega)⟩
theorem Found.miss {l : List Int} {b : List UInt8} {a j : Nat} {f : Int} (h : Found l b a j f) (hn : ¬ Hit l b a j) : Found l b a (j + 1) f := by
  rcases h with ⟨h1, h2⟩ | ⟨t, h1, h2, h3⟩
  · refine .inl ⟨h1, fun t ht => ?_⟩
    by_cases e : t = j
    · subst e; exact hn
    · exact h2 t (by omega)
  · exact .inr ⟨t, by omega, h2, h3⟩
theorem Found.hit {l : List Int} {b : List UInt8} {a j : Nat} (h : Hit l b a j) : Found l b a (j + 1) (j : Int) := .inr ⟨j, by omega, h, rfl⟩
theorem Begs.miss {l : List Int} {b : List UInt8} {a j : Nat} {g : Bool} (h : Begs l b a j g) (hn : ¬ Begun l b a j) : Begs l b a (j + 1) g := by
  unfold Begs at *
  rw [h]
  constructor
  · rintro ⟨t, h1, h2⟩; exact ⟨t, by omega, h2⟩
  · rintro ⟨t, h1, h2⟩
    by_cases e : t = j
    · subst e; exact absurd h2 hn
    · exact ⟨t, by omega, h2⟩
theorem Begs.hit {l : List Int} {b : List UInt8} {a j : Nat} (h : Begun l b a j) : Begs l b a (j + 1) true := by
  unfold Begs
  exact ⟨fun _ => ⟨j, by omega, h⟩, fun _ => rfl⟩
theorem Found.next {l : List Int} {b : List UInt8} {a : Nat} {f : Int} (hft : fits l) (h : Found l b a l.length f) (hf : 0 ≤ f) : nextOf l b a = (f, lenN l f, 0) ∧ ∃ t : Nat, t < l.length ∧ f = t := by
  rcases h with ⟨h1, h2⟩ | ⟨t, h1, h2, rfl⟩
  · omega
  · exact ⟨nextOf_hit hft h2, t, h1, rfl⟩
theorem Found.none {l : List Int} {b : List UInt8} {a : Nat} {f : Int} (h : Found l b a l.length f) (hf : f < 0) : ∀ s, ¬ Hit l b a s := by
  rcases h with ⟨h1, h2⟩ | ⟨t, h1, h2, rfl⟩
  · intro s hs
    obtain ⟨t, h3, _, rfl⟩ := mem_syms.1 hs.1
    exact h2 t h3 hs
  · omega
theorem Found.short {l : List Int} {b : List UInt8} {a : Nat} {f : Int} (h : Found l b a l.length f) (hf : f < 0) (hg : Begs l b a l.length true) : nextOf l b a = (0, 0, 5) := by
  obtain ⟨t, _, h2⟩ := hg.1 rfl
  exact nextOf_short (h.none hf) ⟨t, h2⟩
theorem Found.miss_all {l : List Int} {b : List UInt8} {a : Nat} {f : Int} (h : Found l b a l.length f) (hf : f < 0) (hg : Begs l b a l.length false) : nextOf l b a = (0, 0, 7) := by
  refine nextOf_none (h.none hf) fun s hs => ?_
  obtain ⟨t, h3, _, rfl⟩ := mem_syms.1 hs.1
  have := hg.2 ⟨t, h3, hs⟩
  cases this
/-- the comparison bit by bit comes to its end -/
theorem cmp_hit {l : List Int} {b : List UInt8} {a j : Nat} (hs : (j : Int) ∈ syms l) (h : Same b a (codeN l j) (lenN l j) (lenN l j)) (ha : a + lenN l j ≤ 8 * b.length) : Hit l b a j ∧ ¬ Begun l b a j :=
  ⟨⟨hs, ha, Hit.same.2 h⟩, fun hb => by have := hb.2.1; omega⟩
theorem cmp_end {l : List Int} {b : List UInt8} {a j m : Nat} (hs : (j : Int) ∈ syms l) (hm : m < lenN l j) (h : Same b a (codeN l j) (lenN l j) m) (ha : a + m = 8 * b.length) : ¬ Hit l b a j ∧ Begun l b a j :=
  ⟨fun hh => by have := hh.2.1; omega, hs, by omega, by rw [show 8 * b.length - a = m by omega]; exact h⟩
theorem cmp_diff {l : List Int} {b : List UInt8} {a j m : Nat} (hm : m < lenN l j) (ha : a + m < 8 * b.length) (h : bitAt b (a + m) ≠ bit (codeN l j) (lenN l j - 1 - m)) : ¬ Hit l b a j ∧ ¬ Begun l b a j := by
  constructor
  · intro hh
    have h2 := Same.mono (Hit.same.1 hh.2.2) (j := m + 1) (by omega) (Nat.le_refl _)
    exact h ((Same.succ hm).1 h2).2
  · intro hh
    have h2 := Same.mono hh.2.2 (j := m + 1) (by omega) (by have := hh.2.1; omega)
    exact h ((Same.succ hm).1 h2).2
/-- so many symbols read: the symbols, the bit behind them, the fault -/
noncomputable def decTo (l : List Int) (b : List UInt8) : Nat → List Int × Nat × Int
  | 0 => ([], 0, 0)
  | i + 1 => if (decTo l b i).2.2 = 0 then
      (if (nextOf l b (decTo l b i).2.1).2.2 = 0 then ((decTo l b i).1 ++ [(nextOf l b (decTo l b i).2.1).1], (decTo l b i).2.1 + (nextOf l b (decTo l b i).2.1).2.1, 0)
       else ((decTo l b i).1, (decTo l b i).2.1, (nextOf l b (decTo l b i).2.1).2.2)) else decTo l b i
theorem decTo_ok {l : List Int} {b : List UInt8} {i a : Nat} {L : List Int} {s : Int} {n : Nat} (h : decTo l b i = (L, a, 0)) (h2 : nextOf l b a = (s, n, 0)) : decTo l b (i + 1) = (L ++ [s], a + n, 0) := by
  rw [decTo, h]
  simp [h2]
theorem decTo_err {l : List Int} {b : List UInt8} {i a : Nat} {L : List Int} {s : Int} {n : Nat} {e : Int} (h : decTo l b i = (L, a, 0)) (h2 : nextOf l b a = (s, n, e)) (he : e ≠ 0) : (decTo l b (i + 1)).2.2 = e := by
  rw [decTo, h]
  simp [h2, he]
theorem decTo_bad {l : List Int} {b : List UInt8} {i : Nat} (h : (decTo l b i).2.2 ≠ 0) : ∀ j, i ≤ j → (decTo l b j).2.2 = (decTo l b i).2.2 := by
  intro j hj
  induction j with
  | zero => rw [show i = 0 by omega]
  | succ j ih =>
    by_cases e : i = j + 1
    · rw [e]
    · have h2 := ih (by omega)
      rw [decTo, if_neg (by rw [h2]; exact h), h2]
end Go.Proofs.Ytkbmpppendelcaa.hf
end
section
namespace Go.Proofs.Ytkbmpppendelcaa

/-- what becomes of a state, element by element, up to the first fault -/
def playTo {α σ : Type} (step : σ → α → Except Int σ) (s : σ) : List α → Except Int σ
  | [] => .ok s
  | x :: r => match step s x with
    | .error e => .error e
    | .ok s' => playTo step s' r
theorem playTo_cons {α σ : Type} {step : σ → α → Except Int σ} {s : σ} {x : α} {r : List α} : playTo step s (x :: r) = match step s x with | .error e => .error e | .ok s' => playTo step s' r := rfl
theorem drop_getD {α : Type} (l : List α) (z : α) {k : Nat} (h : k < l.length) : l.drop k = l.getD k z :: l.drop (k + 1) := by
  rw [List.drop_eq_getElem_cons h, List.getD_eq_getElem?_getD, List.getElem?_eq_getElem h]
  rfl
theorem play_ok {α σ : Type} {step : σ → α → Except Int σ} {s s' : σ} {l : List α} (z : α) {k : Nat} (h : k < l.length) (hs : step s (l.getD k z) = .ok s') : playTo step s (l.drop k) = playTo step s' (l.drop (k + 1)) := by
  rw [drop_getD l z h, playTo_cons, hs]
theorem play_no {α σ : Type} {step : σ → α → Except Int σ} {s : σ} {e : Int} {l : List α} (z : α) {k : Nat} (h : k < l.length) (hs : step s (l.getD k z) = .error e) : playTo step s (l.drop k) = .error e := by
  rw [drop_getD l z h, playTo_cons, hs]
theorem play_end {α σ : Type} {step : σ → α → Except Int σ} {s : σ} {l : List α} : playTo step s (l.drop l.length) = .ok s := by
  rw [List.drop_length]
  rfl
end Go.Proofs.Ytkbmpppendelcaa
end
section
namespace Go.Proofs.Ytkbmpppendelcaa.hf

theorem pack_len (B : List Nat) : (pack B).length = (B.length + 7) / 8 := packN_len _ _
def bytesOf (B : List Nat) : List UInt8 := (pack B).map UInt8.ofNat
theorem bytesOf_len (B : List Nat) : (bytesOf B).length = (B.length + 7) / 8 := by unfold bytesOf; rw [List.length_map, pack_len]
theorem pack_at {B : List Nat} {i : Nat} (h : i < (B.length + 7) / 8) : (pack B)[i]? = some (byteAt B i) := packN_at h
theorem ofNat_toNat {n : Nat} (h : n ≤ 255) : (UInt8.ofNat n).toNat = n := by
  rw [UInt8.toNat_ofNat']
  omega
theorem bytesOf_at {B : List Nat} (hB : Bits B) {i : Nat} (h : i < (B.length + 7) / 8) : ((bytesOf B).getD i 0).toNat = byteAt B i := by
  unfold bytesOf
  rw [List.getD_eq_getElem?_getD, List.getElem?_map, pack_at h]
  exact ofNat_toNat (byteAt_le hB i)
theorem pack_le {B : List Nat} (hB : Bits B) : ∀ x ∈ pack B, x ≤ 255 := fun x hx => by
  obtain ⟨i, hi⟩ := List.mem_iff_getElem?.1 hx
  have hl := (List.getElem?_eq_some_iff.1 hi).1
  rw [pack_len] at hl
  rw [pack_at hl] at hi
  have := byteAt_le hB i
  cases hi
  exact this
theorem bitAt_bytes {B : List Nat} (hB : Bits B) {i : Nat} (h : i < B.length) : bitAt (bytesOf B) i = B.getD i 0 := by
  unfold bitAt
  rw [bytesOf_at hB (by omega)]
  unfold byteAt
  have hb := getD_le hB
  obtain ⟨q, hq⟩ : ∃ q, i / 8 = q := ⟨_, rfl⟩
  obtain ⟨r, hr⟩ : ∃ r, i % 8 = r := ⟨_, rfl⟩
  have hr8 : r < 8 := by omega
  have e : i = 8 * q + r := by omega
  rw [hq, hr, e]
  clear hq hr h e
  have b0 := hb (8 * q)
  have b1 := hb (8 * q + 1)
  have b2 := hb (8 * q + 2)
  have b3 := hb (8 * q + 3)
  have b4 := hb (8 * q + 4)
  have b5 := hb (8 * q + 5)
  have b6 := hb (8 * q + 6)
  have b7 := hb (8 * q + 7)
  have hc : r = 0 ∨ r = 1 ∨ r = 2 ∨ r = 3 ∨ r = 4 ∨ r = 5 ∨ r = 6 ∨ r = 7 := by omega
  rcases hc with rfl | rfl | rfl | rfl | rfl | rfl | rfl | rfl
  all_goals
    simp only [Nat.reduceSub, Nat.reducePow, Nat.add_zero]
    clear hb hr8
    generalize B.getD (8 * q) 0 = x0 at *
    generalize B.getD (8 * q + 1) 0 = x1 at *
    generalize B.getD (8 * q + 2) 0 = x2 at *
    generalize B.getD (8 * q + 3) 0 = x3 at *
    generalize B.getD (8 * q + 4) 0 = x4 at *
    generalize B.getD (8 * q + 5) 0 = x5 at *
    generalize B.getD (8 * q + 6) 0 = x6 at *
    generalize B.getD (8 * q + 7) 0 = x7 at *
    omega
theorem all_cut {l S : List Int} {i : Nat} (hi : i < S.length) : allBits l S = allBits l (S.take i) ++ (codeBits l (S.getD i 0) ++ allBits l (S.drop (i + 1))) := by
  have e : S = S.take i ++ S.getD i 0 :: S.drop (i + 1) := by
    rw [← drop_getD S 0 hi, List.take_append_drop]
  conv => lhs; rw [e]
  unfold allBits
  rw [List.flatMap_append, List.flatMap_cons]
theorem all_at {l S : List Int} {i k : Nat} (hi : i < S.length) (hk : k < lenN l (S.getD i 0)) : (allBits l S).getD ((allBits l (S.take i)).length + k) 0 = bit (codeN l (S.getD i 0)) (lenN l (S.getD i 0) - 1 - k) ∧ (allBits l (S.take i)).length + k < (allBits l S).length := by
  have hl := codeBits_len l (S.getD i 0)
  have hk2 : k < (codeBits l (S.getD i 0)).length := by rw [hl]; exact hk
  rw [all_cut hi]
  constructor
  · rw [List.getD_eq_getElem?_getD, List.getElem?_append_right (by omega), Nat.add_sub_cancel_left, List.getElem?_append_left hk2]
    unfold codeBits bitsOf
    rw [List.getElem?_map, List.getElem?_range (show k < (len l (S.getD i 0)).toNat from hk)]
    rfl
  · rw [List.length_append, List.length_append]
    omega
theorem has_syms {l : List Int} (hft : fits l) {s : Int} (h : has l s) : s ∈ syms l := by
  obtain ⟨h1, h2, h3⟩ := h
  obtain ⟨k, rfl⟩ : ∃ k : Nat, s = k := ⟨s.toNat, by omega⟩
  rw [len_nat] at h3
  refine mem_syms.2 ⟨k, by omega, ?_, rfl⟩
  have hk : k < l.length := by omega
  have := hft.2.1 (l.getD k 0) (by rw [List.getD_eq_getElem?_getD, List.getElem?_eq_getElem hk]; exact List.getElem_mem hk)
  omega
theorem hit_at {l S : List Int} (hft : fits l) (hS : ∀ s ∈ S, has l s) {i : Nat} (hi : i < S.length) : Hit l (bytesOf (allBits l S)) (allBits l (S.take i)).length (S.getD i 0) := by
  have hm : S.getD i 0 ∈ S := by rw [List.getD_eq_getElem?_getD, List.getElem?_eq_getElem hi]; exact List.getElem_mem hi
  have hsy := has_syms hft (hS _ hm)
  have hB := allBits_bits l S
  have key : ∀ k, k ≤ lenN l (S.getD i 0) → Same (bytesOf (allBits l S)) (allBits l (S.take i)).length (codeN l (S.getD i 0)) (lenN l (S.getD i 0)) k := by
    intro k
    induction k with
    | zero => exact fun _ => Same.zero (code_lt hft hsy)
    | succ k ih =>
      intro hk
      have := all_at (l := l) hi (k := k) (by omega)
      refine (Same.succ (by omega)).2 ⟨ih (by omega), ?_⟩
      rw [bitAt_bytes hB this.2]
      exact this.1
  refine ⟨hsy, ?_, Hit.same.2 (key _ (Nat.le_refl _))⟩
  have hl := (fits_len hft hsy).1
  have := all_at (l := l) hi (k := lenN l (S.getD i 0) - 1) (by unfold lenN; omega)
  rw [bytesOf_len]
  have : 1 ≤ lenN l (S.getD i 0) := by unfold lenN; omega
  omega
theorem dec_to {l S : List Int} (hft : fits l) (hS : ∀ s ∈ S, has l s) : ∀ i, i ≤ S.length → decTo l (bytesOf (allBits l S)) i = (S.take i, (allBits l (S.take i)).length, 0)
  | 0, _ => rfl
  | i + 1, hi => by
    have h := dec_to hft hS i (by omega)
    rw [decTo_ok h (nextOf_hit hft (hit_at hft hS (by omega)))]
    have hi2 : i < S.length := by omega
    rw [allBits_take hi2, List.length_append, codeBits_len, List.take_add_one, List.getElem?_eq_getElem hi2, List.getD_eq_getElem?_getD, List.getElem?_eq_getElem hi2]
    rfl
theorem dec_all {l S : List Int} (hft : fits l) (hS : ∀ s ∈ S, has l s) : (decTo l (bytesOf (allBits l S)) S.length).1 = S ∧ (decTo l (bytesOf (allBits l S)) S.length).2.2 = 0 := by
  rw [dec_to hft hS _ (Nat.le_refl _), List.take_length]
  exact ⟨rfl, rfl⟩
end Go.Proofs.Ytkbmpppendelcaa.hf
end
section
namespace Go.Proofs.Ytkbmpppendelcaa.lzp

def z : Token := ⟨0, 0, 0⟩
/-- so many bytes more, each from d back -/
def run (d : Nat) : Nat → List UInt8 → List UInt8
  | 0, o => o
  | n + 1, o => run d n o ++ [(run d n o).getD ((run d n o).length - d) 0]
theorem run_length (d : Nat) (o : List UInt8) : ∀ n, (run d n o).length = o.length + n
  | 0 => rfl
  | n + 1 => by rw [run, List.length_append, run_length d o n]; simp; omega
def over (o : List UInt8) : Except Int (List UInt8) := if 4096 < o.length then .error 11 else .ok o
def step (o : List UInt8) (t : Token) : Except Int (List UInt8) :=
  if 0 < t.len then
    if t.byte ≠ 0 then .error 4
    else if 200 < t.len ∨ t.dist < 1 ∨ 255 < t.dist ∨ (o.length : Int) < t.dist then .error 2
    else over (run t.dist.toNat t.len.toNat o)
  else if t.dist ≠ 0 then .error 4
  else if t.len < 0 then .error 2
  else over (o ++ [t.byte])
def expand (l : List Token) : Except Int (List UInt8) := if 4096 < l.length then .error 1 else playTo step [] l
end Go.Proofs.Ytkbmpppendelcaa.lzp
end
section
namespace Go.Proofs.Ytkbmpppendelcaa.lzq

/-- how many bytes two lists begin with that are the same, n at most -/
def com : List UInt8 → List UInt8 → Nat → Nat
  | x :: xs, y :: ys, n + 1 => if x = y then com xs ys n + 1 else 0
  | _, _, _ => 0
theorem com_le : ∀ (xs ys : List UInt8) (n : Nat), com xs ys n ≤ n ∧ com xs ys n ≤ ys.length
  | [], _, _ => by simp [com]
  | _ :: _, [], _ => by simp [com]
  | _ :: _, _ :: _, 0 => by simp [com]
  | x :: xs, y :: ys, n + 1 => by
    have := com_le xs ys n
    unfold com
    split
    · simp; omega
    · simp
/-- from f on and from a on -/
def run (b : List UInt8) (f a : Nat) : Nat := com (b.drop f) (b.drop a) 200
theorem run_le (b : List UInt8) (f a : Nat) : run b f a ≤ 200 ∧ run b f a ≤ b.length - a := by
  have := com_le (b.drop f) (b.drop a) 200
  simpa [run] using this
/-- as far as n it is the same -/
def upto (b : List UInt8) (f a n : Nat) : Prop := run b f a = n + com (b.drop (f + n)) (b.drop (a + n)) (200 - n)
theorem upto_zero (b : List UInt8) (f a : Nat) : upto b f a 0 := by simp [upto, run]
theorem drop_get (b : List UInt8) {i : Nat} (h : i < b.length) : b.drop i = b.getD i 0 :: b.drop (i + 1) := drop_getD b 0 h
theorem upto_succ {b : List UInt8} {f a n : Nat} (h : upto b f a n) (hn : n < 200) (ha : a + n < b.length) (hf : f + n < b.length) (he : b.getD (f + n) 0 = b.getD (a + n) 0) : upto b f a (n + 1) := by
  unfold upto at *
  rw [h, drop_get b hf, drop_get b ha, show 200 - n = (200 - (n + 1)) + 1 by omega, com, if_pos he]
  simp only [Nat.add_assoc]
  omega
theorem upto_ne {b : List UInt8} {f a n : Nat} (h : upto b f a n) (hn : n < 200) (ha : a + n < b.length) (hf : f + n < b.length) (he : b.getD (f + n) 0 ≠ b.getD (a + n) 0) : run b f a = n := by
  unfold upto at h
  rw [h, drop_get b hf, drop_get b ha, show 200 - n = (200 - (n + 1)) + 1 by omega, com, if_neg he]
  rfl
theorem upto_far {b : List UInt8} {f a n : Nat} (h : upto b f a n) (hn : 200 ≤ n) : run b f a = n := by
  unfold upto at h
  have := (com_le (b.drop (f + n)) (b.drop (a + n)) (200 - n)).1
  omega
theorem upto_end {b : List UInt8} {f a n : Nat} (h : upto b f a n) (hn : b.length ≤ a + n) : run b f a = n := by
  unfold upto at h
  have := (com_le (b.drop (f + n)) (b.drop (a + n)) (200 - n)).2
  simp at this
  omega
/-- the key of a place -/
def key (b : List UInt8) (p : Nat) : UInt8 × UInt8 × UInt8 := (b.getD p 0, b.getD (p + 1) 0, b.getD (p + 2) 0)
theorem run_three {b : List UInt8} {f a : Nat} (hfa : f < a) (ha : a + 3 ≤ b.length) : 3 ≤ run b f a ↔ key b f = key b a := by
  have h0 := upto_zero b f a
  unfold key
  simp only [Prod.mk.injEq]
  by_cases e0 : b.getD f 0 = b.getD a 0
  · have h1 := upto_succ h0 (by omega) (by omega) (by omega) (by simpa using e0)
    by_cases e1 : b.getD (f + 1) 0 = b.getD (a + 1) 0
    · have h2 := upto_succ h1 (by omega) (by omega) (by omega) e1
      by_cases e2 : b.getD (f + 2) 0 = b.getD (a + 2) 0
      · have h3 := upto_succ h2 (by omega) (by omega) (by omega) e2
        unfold upto at h3
        exact ⟨fun _ => ⟨e0, e1, e2⟩, fun _ => by omega⟩
      · have := upto_ne h2 (by omega) (by omega) (by omega) e2
        exact ⟨fun h => by omega, fun h => absurd h.2.2 e2⟩
    · have := upto_ne h1 (by omega) (by omega) (by omega) e1
      exact ⟨fun h => by omega, fun h => absurd h.2.1 e1⟩
  · have := upto_ne h0 (by omega) (by omega) (by omega) (by simpa using e0)
    exact ⟨fun h => by omega, fun h => absurd h.1 e0⟩
theorem run_short {b : List UInt8} {f a : Nat} (ha : b.length < a + 3) : run b f a < 3 := by
  have := (run_le b f a).2
  omega

/-- the best of the first d distances: the distance and the length -/
def best (b : List UInt8) (a : Nat) : Nat → Nat × Nat
  | 0 => (0, 2)
  | d + 1 => if (best b a d).2 < run b (a - (d + 1)) a then (d + 1, run b (a - (d + 1)) a) else best b a d
theorem best_two (b : List UInt8) (a : Nat) : ∀ d, (best b a d).1 = 0 ∧ (best b a d).2 = 2 ∨ 1 ≤ (best b a d).1 ∧ (best b a d).1 ≤ d ∧ 3 ≤ (best b a d).2 ∧ (best b a d).2 ≤ 200 ∧ (best b a d).2 ≤ b.length - a
  | 0 => .inl ⟨rfl, rfl⟩
  | d + 1 => by
    have ih := best_two b a d
    have hr := run_le b (a - (d + 1)) a
    unfold best
    split
    · rename_i h
      refine .inr ⟨by simp, by simp, ?_, hr.1, hr.2⟩
      simp only
      omega
    · omega
/-- the finder's: nothing yet is (0, 0) -/
def low (s : Nat × Nat) : Nat × Nat := if s.1 = 0 then (0, 0) else s
theorem best_skip {b : List UInt8} {a k : Nat} : ∀ {d : Nat}, k ≤ d → (∀ e, k < e → e ≤ d → run b (a - e) a < 3) → best b a d = best b a k
  | 0, h, _ => by rw [show k = 0 by omega]
  | d + 1, h, hr => by
    by_cases e : k = d + 1
    · rw [e]
    · have ih := best_skip (d := d) (by omega) (fun e h1 h2 => hr e h1 (by omega))
      have hd := hr (d + 1) (by omega) (by omega)
      have h2 := best_two b a d
      rw [best, if_neg (by omega), ih]
theorem best_hit {b : List UInt8} {a k d : Nat} (hk : k < d) (hr : ∀ e, k < e → e < d → run b (a - e) a < 3) (h3 : 3 ≤ run b (a - d) a) :
    low (best b a d) = if (low (best b a k)).2 < run b (a - d) a then (d, run b (a - d) a) else low (best b a k) := by
  obtain ⟨d, rfl⟩ : ∃ m, d = m + 1 := ⟨d - 1, by omega⟩
  have h1 := best_skip (b := b) (a := a) (k := k) (d := d) (by omega) (fun e h1 h2 => hr e h1 (by omega))
  have h2 := best_two b a k
  rw [best, h1]
  unfold low
  generalize run b (a - (d + 1)) a = r at *
  generalize best b a k = s at *
  obtain ⟨s1, s2⟩ := s
  simp only at *
  rcases h2 with ⟨e1, e2⟩ | ⟨e1, e2, e3, e4⟩
  · subst e1; subst e2
    rw [if_pos (show 2 < r by omega)]
    simp
    omega
  · by_cases h : s2 < r
    · rw [if_pos h, if_neg (show ¬ s1 = 0 by omega), if_pos h]
      simp
    · rw [if_neg h, if_neg (show ¬ s1 = 0 by omega), if_neg h]

/-- the places ahead of k where a key stands -/
def poss (b : List UInt8) (q : UInt8 × UInt8 × UInt8) (k : Nat) : List Nat := (List.range k).filter fun p => decide (p + 3 ≤ b.length ∧ key b p = q)
theorem poss_zero (b : List UInt8) (q : UInt8 × UInt8 × UInt8) : poss b q 0 = [] := rfl
theorem poss_hit {b : List UInt8} {k : Nat} (h : k + 3 ≤ b.length) : poss b (key b k) (k + 1) = poss b (key b k) k ++ [k] := by
  unfold poss
  rw [List.range_succ, List.filter_append]
  simp [h]
theorem poss_miss {b : List UInt8} {q : UInt8 × UInt8 × UInt8} {k : Nat} (h : ¬ (k + 3 ≤ b.length ∧ key b k = q)) : poss b q (k + 1) = poss b q k := by
  unfold poss
  rw [List.range_succ, List.filter_append]
  simp only [List.filter_cons, List.filter_nil, decide_eq_true_eq]
  rw [if_neg h, List.append_nil]
theorem mem_poss {b : List UInt8} {q : UInt8 × UInt8 × UInt8} {k p : Nat} : p ∈ poss b q k ↔ p < k ∧ p + 3 ≤ b.length ∧ key b p = q := by
  simp [poss, List.mem_filter, List.mem_range]
theorem poss_len (b : List UInt8) (q : UInt8 × UInt8 × UInt8) (k : Nat) : (poss b q k).length ≤ k := by
  have := List.length_filter_le (fun p => decide (p + 3 ≤ b.length ∧ key b p = q)) (List.range k)
  simpa [poss] using this
theorem poss_lt (b : List UInt8) (q : UInt8 × UInt8 × UInt8) (k : Nat) {i j : Nat} (hij : i < j) (hj : j < (poss b q k).length) : (poss b q k).getD i 0 < (poss b q k).getD j 0 := by
  have h : (poss b q k).Pairwise (· < ·) := List.pairwise_lt_range.filter _
  rw [List.pairwise_iff_getElem] at h
  have := h i j (by omega) hj hij
  simpa [List.getD_eq_getElem?_getD, List.getElem?_eq_getElem hj, List.getElem?_eq_getElem (show i < (poss b q k).length by omega)] using this
theorem poss_at {b : List UInt8} {q : UInt8 × UInt8 × UInt8} {k j : Nat} (hj : j < (poss b q k).length) : (poss b q k).getD j 0 ∈ poss b q k := by
  rw [List.getD_eq_getElem?_getD, List.getElem?_eq_getElem hj]
  exact List.getElem_mem hj
/-- what the finder has when j places are left: all further ones are looked at, as far as distance k -/
def Seen (b : List UInt8) (a j k : Nat) : Prop := k ≤ a ∧ k ≤ 255 ∧ j ≤ (poss b (key b a) a).length ∧ (∀ i, i < j → (poss b (key b a) a).getD i 0 + k < a) ∧ ∀ i, j ≤ i → i < (poss b (key b a) a).length → a ≤ (poss b (key b a) a).getD i 0 + k
theorem seen_start (b : List UInt8) (a : Nat) : Seen b a (poss b (key b a) a).length 0 :=
  ⟨by omega, by omega, by omega, fun i hi => by have := (mem_poss.1 (poss_at hi)).1; omega, fun i h1 h2 => by omega⟩
theorem seen_gap {b : List UInt8} {a j k : Nat} (h : Seen b a j k) (ha : a + 3 ≤ b.length) {e : Nat} (hk : k < e) (he : e ≤ a) (hj : ∀ i, i < j → (poss b (key b a) a).getD i 0 + e < a) : run b (a - e) a < 3 := by
  refine Nat.lt_of_not_le fun h3 => ?_
  have hm : a - e ∈ poss b (key b a) a := mem_poss.2 ⟨by omega, by omega, (run_three (by omega) ha).1 h3⟩
  obtain ⟨i, hi, hv⟩ := List.mem_iff_getElem.1 hm
  have hv' : (poss b (key b a) a).getD i 0 = a - e := by rw [List.getD_eq_getElem?_getD, List.getElem?_eq_getElem hi]; exact hv
  by_cases hij : i < j
  · have := hj i hij
    omega
  · have := h.2.2.2.2 i (by omega) hi
    omega
theorem seen_next {b : List UInt8} {a j k : Nat} (h : Seen b a (j + 1) k) (ha : a + 3 ≤ b.length) (hd : a - (poss b (key b a) a).getD j 0 ≤ 255) :
    Seen b a j (a - (poss b (key b a) a).getD j 0) ∧ low (best b a (a - (poss b (key b a) a).getD j 0)) = if (low (best b a k)).2 < run b ((poss b (key b a) a).getD j 0) a then (a - (poss b (key b a) a).getD j 0, run b ((poss b (key b a) a).getD j 0) a) else low (best b a k) := by
  have hjl : j < (poss b (key b a) a).length := by have := h.2.2.1; omega
  have hm := mem_poss.1 (poss_at hjl)
  have h1 := h.2.2.2.1 j (by omega)
  have hlt : ∀ i, i < j → (poss b (key b a) a).getD i 0 < (poss b (key b a) a).getD j 0 := fun i hi => poss_lt b _ a hi hjl
  refine ⟨⟨by omega, hd, by omega, fun i hi => by have := hlt i hi; omega, fun i hi1 hi2 => ?_⟩, ?_⟩
  · by_cases e : i = j
    · subst e; omega
    · have := poss_lt b (key b a) a (show j < i by omega) hi2
      omega
  · have := best_hit (b := b) (a := a) (k := k) (d := a - (poss b (key b a) a).getD j 0) (by omega) (fun e h2 h3 => seen_gap h ha h2 (by omega) (fun i hi => ?_)) (by rw [show a - (a - (poss b (key b a) a).getD j 0) = (poss b (key b a) a).getD j 0 by omega]; exact (run_three (by omega) ha).2 hm.2.2)
    · rw [show a - (a - (poss b (key b a) a).getD j 0) = (poss b (key b a) a).getD j 0 by omega] at this
      exact this
    · by_cases e2 : i = j
      · subst e2; omega
      · have := hlt i (by omega); omega
theorem seen_end {b : List UInt8} {a j k : Nat} (h : Seen b a j k) (ha : a + 3 ≤ b.length) (hj : j = 0 ∨ 255 < a - (poss b (key b a) a).getD (j - 1) 0) : best b a (min 255 a) = best b a k := by
  have h1 := h.1
  have h2 := h.2.1
  refine best_skip (by omega) fun e he1 he2 => seen_gap h ha he1 (by omega) fun i hi => ?_
  rcases hj with rfl | hj
  · omega
  · have hjl : j - 1 < (poss b (key b a) a).length := by have := h.2.2.1; omega
    by_cases e : i = j - 1
    · subst e; omega
    · have := poss_lt b (key b a) a (show i < j - 1 by omega) hjl
      omega
theorem best_near_end {b : List UInt8} {a : Nat} (ha : b.length < a + 3) (d : Nat) : best b a d = (0, 2) :=
  best_skip (k := 0) (by omega) fun _ _ _ => run_short ha

/-- the token of a place -/
def tok (b : List UInt8) (a : Nat) : Token := let s := best b a (min 255 a); if s.1 = 0 then ⟨b.getD a 0, 0, 0⟩ else ⟨0, s.1, s.2⟩
/-- how far it goes -/
def wide (b : List UInt8) (a : Nat) : Nat := let s := best b a (min 255 a); if s.1 = 0 then 1 else s.2
theorem wide_pos (b : List UInt8) (a : Nat) (h : a < b.length) : 1 ≤ wide b a ∧ a + wide b a ≤ b.length ∧ wide b a ≤ 200 := by
  have := best_two b a (min 255 a)
  unfold wide
  simp only
  split <;> omega
/-- the tokens from a place on -/
def toks (b : List UInt8) (a : Nat) : List Token := if _h : a < b.length then tok b a :: toks b (a + wide b a) else []
termination_by b.length - a
decreasing_by have := wide_pos b a _h; omega
theorem toks_more {b : List UInt8} {a : Nat} (h : a < b.length) : toks b a = tok b a :: toks b (a + wide b a) := by
  rw [toks, dif_pos h]
theorem toks_end {b : List UInt8} {a : Nat} (h : b.length ≤ a) : toks b a = [] := by
  rw [toks, dif_neg (by omega)]
end Go.Proofs.Ytkbmpppendelcaa.lzq
end
section
namespace Go.Proofs.Ytkbmpppendelcaa.lzq

theorem com_eq : ∀ (xs ys : List UInt8) (n j : Nat), j < com xs ys n → xs.getD j 0 = ys.getD j 0
  | [], _, _, _, h => by simp [com] at h
  | _ :: _, [], _, _, h => by simp [com] at h
  | _ :: _, _ :: _, 0, _, h => by simp [com] at h
  | x :: xs, y :: ys, n + 1, j, h => by
    rw [com] at h
    split at h
    · next e =>
      cases j with
      | zero => exact e
      | succ j => exact com_eq xs ys n j (by omega)
    · omega
theorem run_eq {b : List UInt8} {f a j : Nat} (h : j < run b f a) : b.getD (f + j) 0 = b.getD (a + j) 0 := by
  have := com_eq _ _ _ j h
  rw [List.getD_eq_getElem?_getD, List.getD_eq_getElem?_getD, List.getElem?_drop, List.getElem?_drop] at this
  rw [List.getD_eq_getElem?_getD, List.getD_eq_getElem?_getD]
  exact this
theorem best_run (b : List UInt8) (a : Nat) : ∀ d, (best b a d).1 ≠ 0 → (best b a d).2 = run b (a - (best b a d).1) a
  | 0, h => by simp [best] at h
  | d + 1, h => by
    unfold best at h ⊢
    split
    · rfl
    · next hn =>
      rw [if_neg hn] at h
      exact best_run b a d h
theorem take_snoc {b : List UInt8} {a : Nat} (h : a < b.length) : b.take (a + 1) = b.take a ++ [b.getD a 0] := by
  rw [List.take_add_one, List.getElem?_eq_getElem h, List.getD_eq_getElem?_getD, List.getElem?_eq_getElem h]
  rfl
theorem copy {b : List UInt8} {a d : Nat} (hd : 1 ≤ d) (hda : d ≤ a) : ∀ n, a + n ≤ b.length → (∀ j, j < n → b.getD (a - d + j) 0 = b.getD (a + j) 0) → lzp.run d n (b.take a) = b.take (a + n)
  | 0, _, _ => rfl
  | n + 1, h, he => by
    have ih := copy hd hda n (by omega) fun j hj => he j (by omega)
    rw [lzp.run, ih, ← Nat.add_assoc, take_snoc (by omega)]
    have hl : (b.take (a + n)).length = a + n := by rw [List.length_take]; omega
    rw [hl]
    congr 2
    rw [List.getD_eq_getElem?_getD, List.getElem?_take_of_lt (by omega), ← List.getD_eq_getElem?_getD, show a + n - d = a - d + n by omega]
    exact he n (by omega)
theorem toks_len (b : List UInt8) (a : Nat) : (toks b a).length ≤ b.length - a := by
  by_cases h : a < b.length
  · have hw := wide_pos b a h
    have ih := toks_len b (a + wide b a)
    rw [toks_more h, List.length_cons]
    omega
  · rw [toks_end (by omega)]
    exact Nat.zero_le _
termination_by b.length - a
theorem play_toks {b : List UInt8} (hb : b.length ≤ 4096) (a : Nat) (ha : a ≤ b.length) : playTo lzp.step (b.take a) (toks b a) = .ok b := by
  by_cases h : a < b.length
  · have hw := wide_pos b a h
    have ih := play_toks hb (a + wide b a) (by omega)
    rw [toks_more h, playTo_cons]
    have hs : lzp.step (b.take a) (tok b a) = .ok (b.take (a + wide b a)) := by
      have h2 := best_two b a (min 255 a)
      have h3 := best_run b a (min 255 a)
      have hl : (b.take a).length = a := by rw [List.length_take]; omega
      unfold tok wide at *
      simp only at hw ⊢
      generalize best b a (min 255 a) = s at *
      obtain ⟨d, n⟩ := s
      simp only at h2 h3 hw ⊢
      by_cases c : d = 0
      · rw [if_pos c, if_pos c]
        unfold lzp.step lzp.over
        rw [if_neg (by simp), if_neg (by simp), if_neg (by simp), if_neg (by rw [List.length_append, hl]; simp; omega), take_snoc h]
      · rw [if_neg c] at hw
        rw [if_neg c, if_neg c]
        have e3 := h3 c
        have hcp := copy (b := b) (a := a) (d := d) (by omega) (by omega) n (by omega) fun j hj => run_eq (by omega)
        unfold lzp.step lzp.over
        rw [if_pos (by show (0 : Int) < (n : Int); omega), if_neg (by simp), if_neg (by
          show ¬ ((200 : Int) < (n : Int) ∨ (d : Int) < 1 ∨ (255 : Int) < (d : Int) ∨ ((b.take a).length : Int) < (d : Int))
          rw [hl]
          omega)]
        simp only [Int.toNat_natCast]
        rw [hcp, if_neg (by rw [List.length_take]; omega)]
    rw [hs]
    exact ih
  · rw [toks_end (by omega), show a = b.length by omega, List.take_length]
    rfl
termination_by b.length - a
decreasing_by have := wide_pos b a (by assumption); omega
theorem expand_toks {b : List UInt8} (hb : b.length ≤ 4096) : lzp.expand (toks b 0) = .ok b := by
  unfold lzp.expand
  have := toks_len b 0
  rw [if_neg (by omega)]
  exact play_toks hb 0 (Nat.zero_le _)
end Go.Proofs.Ytkbmpppendelcaa.lzq
end
