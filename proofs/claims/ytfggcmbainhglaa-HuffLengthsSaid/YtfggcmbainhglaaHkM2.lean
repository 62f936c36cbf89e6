/- Texts in one: HuffP, HuffT, Tail, Fork, HeapW, Anew, HeapX, HeapY. No condition. -/
import Derived.Test.YtfggcmbainhglaaHkM1
import Derived.OrdersHeld
import Derived.Deep.RegionHeld
import Derived.Deep.DeepCutAuto
namespace Go.Proofs.Ytfggcmbainhglaa.hf

/-- a symbol's code's length -/
def len (l : List Int) (s : Int) : Int := l.getD s.toNat 0
/-- the symbols with codes, rising -/
def syms (l : List Int) : List Int := ((List.range l.length).filter fun s => decide (0 < l.getD s 0)).map fun s : Nat => (s : Int)
/-- those of the first k -/
def symsTo (l : List Int) (k : Nat) : List Int := ((List.range k).filter fun s => decide (0 < l.getD s 0)).map fun s : Nat => (s : Int)
theorem symsTo_end (l : List Int) : symsTo l l.length = syms l := rfl
theorem symsTo_succ (l : List Int) (k : Nat) : symsTo l (k + 1) = symsTo l k ++ if 0 < l.getD k 0 then [(k : Int)] else [] := by
  unfold symsTo
  rw [List.range_succ, List.filter_append, List.map_append]
  congr 1
  by_cases h : 0 < l.getD k 0
  · rw [if_pos h, List.filter_cons, if_pos (decide_eq_true h)]; rfl
  · rw [if_neg h, List.filter_cons, if_neg (by simpa using h)]; rfl
/-- what a code of so many bits takes -/
def part (n : Int) : Nat := 2 ^ (40 - n.toNat)
def partOf (l : List Int) (s : Int) : Nat := part (len l s)
def sumP (f : Int → Nat) (L : List Int) : Nat := (L.map f).sum
theorem sumP_nil (f : Int → Nat) : sumP f [] = 0 := rfl
theorem sumP_append (f : Int → Nat) (L M : List Int) : sumP f (L ++ M) = sumP f L + sumP f M := by unfold sumP; rw [List.map_append, List.sum_append]
theorem sumP_one (f : Int → Nat) (x : Int) : sumP f [x] = f x := by simp [sumP]
theorem sumP_perm {f : Int → Nat} {L M : List Int} (h : L.Perm M) : sumP f L = sumP f M := (h.map f).sum_nat
theorem sumP_filter_le (f : Int → Nat) (p : Int → Bool) : ∀ L : List Int, sumP f (L.filter p) ≤ sumP f L
  | [] => Nat.le_refl _
  | x :: L => by
    have h := sumP_filter_le f p L
    have e : sumP f (x :: L) = f x + sumP f L := by simp [sumP]
    rw [List.filter_cons]
    split
    · have e2 : sumP f (x :: L.filter p) = f x + sumP f (L.filter p) := by simp [sumP]
      omega
    · omega
def ahead (l : List Int) (s t : Int) : Bool := decide (len l t < len l s ∨ len l t = len l s ∧ t < s)
/-- all that stands ahead of a symbol's code -/
def used (l : List Int) (s : Int) : Nat := sumP (partOf l) ((syms l).filter (ahead l s))
def codeOf (l : List Int) (s : Int) : Int := if len l s = 0 then 0 else ((used l s / part (len l s) : Nat) : Int)
def codes (l : List Int) : List Int := (List.range l.length).map fun s : Nat => codeOf l s
/-- lengths that may be -/
def fits (l : List Int) : Prop := l.length ≤ 64 ∧ (∀ n ∈ l, 0 ≤ n ∧ n ≤ 40) ∧ sumP (partOf l) (syms l) ≤ 1099511627776
noncomputable def may (l : List Int) : Bool := open Classical in decide (fits l)
theorem may_iff {l : List Int} : may l = true ↔ fits l := by unfold may; simp
theorem mem_syms {l : List Int} {s : Int} : s ∈ syms l ↔ ∃ k : Nat, k < l.length ∧ 0 < l.getD k 0 ∧ s = k := by
  unfold syms
  simp only [List.mem_map, List.mem_filter, List.mem_range, decide_eq_true_eq]
  constructor
  · rintro ⟨k, ⟨h1, h2⟩, rfl⟩; exact ⟨k, h1, h2, rfl⟩
  · rintro ⟨k, h1, h2, rfl⟩; exact ⟨k, ⟨h1, h2⟩, rfl⟩
theorem len_nat (l : List Int) (k : Nat) : len l (k : Int) = l.getD k 0 := by unfold len; rw [Int.toNat_natCast]
theorem syms_rising (l : List Int) : (syms l).Pairwise (· < ·) := by
  unfold syms
  rw [List.pairwise_map]
  refine (List.Pairwise.filter _ List.pairwise_lt_range).imp ?_
  intro a b h
  omega
theorem syms_len (l : List Int) : (syms l).length ≤ l.length := by
  unfold syms
  rw [List.length_map]
  have := List.length_filter_le (fun s => decide (0 < l.getD s 0)) (List.range l.length)
  simpa using this
theorem fits_len {l : List Int} (h : fits l) {s : Int} (hs : s ∈ syms l) : 1 ≤ len l s ∧ len l s ≤ 40 := by
  obtain ⟨k, h1, h2, rfl⟩ := mem_syms.1 hs
  rw [len_nat]
  have hm : l.getD k 0 ∈ l := by rw [List.getD_eq_getElem?_getD, List.getElem?_eq_getElem h1]; exact List.getElem_mem h1
  exact ⟨by omega, (h.2.1 _ hm).2⟩
theorem part_pos (n : Int) : 0 < part n := Nat.two_pow_pos _
theorem part_le (n : Int) : part n ≤ 1099511627776 := by
  unfold part
  exact Nat.pow_le_pow_right (by decide) (by omega : 40 - n.toNat ≤ 40)
/-- shifting by the difference of two lengths -/
theorem part_shift {a b : Int} (ha : 0 ≤ a) (hab : a ≤ b) (hb : b ≤ 40) : 2 ^ (b - a).toNat * part b = part a := by
  unfold part
  rw [← Nat.pow_add]
  congr 1
  omega
theorem ahead_iff {l : List Int} {s t : Int} : ahead l s t = true ↔ so.lx (len l) t s := by
  unfold ahead so.lx
  simp
/-- in sorted order, ahead of the i-th are the first i -/
theorem filter_take {l : List Int} : ∀ {M : List Int} {i : Nat} {s : Int}, so.Srt (len l) M → M[i]? = some s → M.filter (ahead l s) = M.take i := by
  intro M i s hM hi
  obtain ⟨h1, rfl⟩ := List.getElem?_eq_some_iff.1 hi
  have e : M = M.take i ++ M[i] :: M.drop (i + 1) := by rw [← List.drop_eq_getElem_cons h1, List.take_append_drop]
  generalize M[i] = s at *
  have hM2 := hM
  rw [e] at hM2
  obtain ⟨a1, a2, a3⟩ := List.pairwise_append.1 hM2
  obtain ⟨b1, b2⟩ := List.pairwise_cons.1 a2
  conv => lhs; rw [e]
  rw [List.filter_append, List.filter_cons]
  have t1 : (M.take i).filter (ahead l s) = M.take i := List.filter_eq_self.2 (fun x hx => ahead_iff.2 (a3 x hx s (by simp)))
  have t2 : ahead l s s = false := by
    cases h : ahead l s s
    · rfl
    · exact absurd (ahead_iff.1 h) so.lx.irrefl
  have t3 : (M.drop (i + 1)).filter (ahead l s) = [] := List.filter_eq_nil_iff.2 (fun x hx h => (b1 x hx).asymm (ahead_iff.1 h))
  rw [t1, t2, t3]
  simp
theorem used_take {l M : List Int} {i : Nat} {s : Int} (hM : so.Srt (len l) M) (hp : M.Perm (syms l)) (hi : M[i]? = some s) : used l s = sumP (partOf l) (M.take i) := by
  unfold used
  rw [← filter_take hM hi]
  exact (sumP_perm (hp.filter _)).symm
theorem sumP_take_le (f : Int → Nat) (M : List Int) (i : Nat) : sumP f (M.take i) ≤ sumP f M := by
  conv => rhs; rw [← List.take_append_drop i M]
  rw [sumP_append]
  omega
theorem sumP_take_succ (f : Int → Nat) {M : List Int} {i : Nat} {s : Int} (hi : M[i]? = some s) : sumP f (M.take (i + 1)) = sumP f (M.take i) + f s := by
  obtain ⟨h1, rfl⟩ := List.getElem?_eq_some_iff.1 hi
  rw [List.take_succ_eq_append_getElem h1, sumP_append, sumP_one]
/-- what the loop over the sorted symbols holds: next, and the last length -/
structure Run (l M : List Int) (i : Nat) (next : Nat) (long : Int) : Prop where
  lo : 0 ≤ long ∧ long ≤ 40
  sum : next * part long = sumP (partOf l) (M.take i)
  up : ∀ s, M[i]? = some s → long ≤ len l s
theorem Run.zero (l M : List Int) (h : fits l) (hp : M.Perm (syms l)) : Run l M 0 0 0 := ⟨by omega, by simp [sumP_nil], fun s hs => by
  have := fits_len h (hp.mem_iff.1 (List.mem_of_getElem? hs)); omega⟩
theorem Run.next_le {l M : List Int} {i next : Nat} {long : Int} (h : Run l M i next long) (hf : fits l) (hp : M.Perm (syms l)) : next ≤ 1099511627776 := by
  have h1 := h.sum
  have h2 := sumP_take_le (partOf l) M i
  rw [sumP_perm hp] at h2
  have h3 := hf.2.2
  have h4 := Nat.le_mul_of_pos_right next (part_pos long)
  omega
/-- one symbol more: its code, then the next -/
theorem Run.step {l M : List Int} {i next : Nat} {long s : Int} (h : Run l M i next long) (hf : fits l) (hM : so.Srt (len l) M) (hp : M.Perm (syms l)) (hi : M[i]? = some s) :
    codeOf l s = ((next * 2 ^ (len l s - long).toNat : Nat) : Int) ∧ next * 2 ^ (len l s - long).toNat ≤ 1099511627776 ∧ Run l M (i + 1) (next * 2 ^ (len l s - long).toNat + 1) (len l s) := by
  have hs := fits_len hf (hp.mem_iff.1 (List.mem_of_getElem? hi))
  have hup := h.up s hi
  have hsh := part_shift h.lo.1 hup hs.2
  have hsum : next * 2 ^ (len l s - long).toNat * part (len l s) = sumP (partOf l) (M.take i) := by rw [Nat.mul_assoc, hsh, h.sum]
  have hR : Run l M (i + 1) (next * 2 ^ (len l s - long).toNat + 1) (len l s) := ⟨by omega, by
    rw [sumP_take_succ _ hi, Nat.add_mul, Nat.one_mul, hsum]; rfl, fun u hu => by
    have := List.pairwise_iff_getElem.1 hM i (i + 1) (List.getElem?_eq_some_iff.1 hi).1 (List.getElem?_eq_some_iff.1 hu).1 (by omega)
    rw [(List.getElem?_eq_some_iff.1 hi).2, (List.getElem?_eq_some_iff.1 hu).2] at this
    exact this.le⟩
  refine ⟨?_, by have := hR.next_le hf hp; omega, hR⟩
  unfold codeOf
  rw [if_neg (by omega), used_take hM hp hi, ← hsum, Nat.mul_div_cancel _ (part_pos _)]
theorem codeOf_bd {l : List Int} (hf : fits l) (s : Int) : 0 ≤ codeOf l s ∧ codeOf l s ≤ 1099511627776 := by
  unfold codeOf
  split
  · omega
  · have h1 : used l s ≤ sumP (partOf l) (syms l) := by
      exact sumP_filter_le _ _ _
    have h2 := hf.2.2
    have h3 := Nat.div_le_self (used l s) (part (len l s))
    generalize used l s / part (len l s) = q at *
    omega
/-- the reference's sum over all symbols -/
def refUsed (l : List Int) (s : Int) (k : Nat) : Nat := sumP (partOf l) (((List.range k).filter fun t => decide (0 < l.getD t 0) && ahead l s t).map fun t : Nat => (t : Int))
theorem refUsed_succ (l : List Int) (s : Int) (k : Nat) : refUsed l s (k + 1) = refUsed l s k + if 0 < l.getD k 0 ∧ ahead l s k = true then part (l.getD k 0) else 0 := by
  unfold refUsed
  rw [List.range_succ, List.filter_append, List.map_append, sumP_append]
  congr 1
  by_cases h : 0 < l.getD k 0 ∧ ahead l s k = true
  · rw [if_pos h]
    have : (decide (0 < l.getD k 0) && ahead l s (k : Int)) = true := by rw [h.2, decide_eq_true h.1]; rfl
    rw [List.filter_cons, if_pos this]
    simp only [List.filter_nil, List.map_cons, List.map_nil]
    rw [sumP_one]
    unfold partOf
    rw [len_nat]
  · rw [if_neg h]
    have : (decide (0 < l.getD k 0) && ahead l s (k : Int)) = false := by
      cases hh : (decide (0 < l.getD k 0) && ahead l s (k : Int))
      · rfl
      · rw [Bool.and_eq_true, decide_eq_true_eq] at hh
        exact absurd hh h
    rw [List.filter_cons, this]
    rfl
theorem refUsed_end (l : List Int) (s : Int) : refUsed l s l.length = used l s := by
  unfold refUsed used syms
  rw [List.filter_map, List.filter_filter]
  congr 2
  apply List.filter_congr
  intro x _
  simp only [Function.comp]
  exact Bool.and_comm _ _
theorem refUsed_le {l : List Int} (hf : fits l) (s : Int) (k : Nat) (hk : k ≤ l.length) : refUsed l s k ≤ 1099511627776 := by
  have hm : ∀ j, refUsed l s j ≤ refUsed l s (j + 1) := fun j => by rw [refUsed_succ]; omega
  have hmono : ∀ j, k ≤ j → refUsed l s k ≤ refUsed l s j := fun j hj => by
    induction j with
    | zero => rw [show k = 0 by omega]; exact Nat.le_refl _
    | succ j ih =>
      by_cases h : k = j + 1
      · rw [h]; exact Nat.le_refl _
      · exact Nat.le_trans (ih (by omega)) (hm j)
  have h1 := hmono l.length hk
  rw [refUsed_end] at h1
  have h2 : used l s ≤ sumP (partOf l) (syms l) := by
    exact sumP_filter_le _ _ _
  have h3 := hf.2.2
  omega
/-- the sum over the first k lengths -/
def sumTo (l : List Int) (k : Nat) : Nat := sumP (partOf l) (((List.range k).filter fun t => decide (0 < l.getD t 0)).map fun t : Nat => (t : Int))
theorem sumTo_succ (l : List Int) (k : Nat) : sumTo l (k + 1) = sumTo l k + if 0 < l.getD k 0 then part (l.getD k 0) else 0 := by
  unfold sumTo
  rw [List.range_succ, List.filter_append, List.map_append, sumP_append]
  congr 1
  by_cases h : 0 < l.getD k 0
  · rw [if_pos h, List.filter_cons, if_pos (decide_eq_true h)]
    simp only [List.filter_nil, List.map_cons, List.map_nil]
    rw [sumP_one]
    unfold partOf
    rw [len_nat]
  · rw [if_neg h, List.filter_cons, if_neg (by simpa using h)]
    rfl
theorem sumTo_end (l : List Int) : sumTo l l.length = sumP (partOf l) (syms l) := rfl
theorem sumTo_le (l : List Int) : ∀ k, sumTo l k ≤ 1099511627776 * k
  | 0 => by simp [sumTo, sumP_nil]
  | k + 1 => by
    have h := sumTo_le l k
    rw [sumTo_succ]
    have := part_le (l.getD k 0)
    split <;> omega
/-- lengths of which the first k are within bounds -/
def bound (l : List Int) (k : Nat) : Prop := ∀ j, j < k → 0 ≤ l.getD j 0 ∧ l.getD j 0 ≤ 40
theorem fits_iff (l : List Int) : fits l ↔ l.length ≤ 64 ∧ bound l l.length ∧ sumTo l l.length ≤ 1099511627776 := by
  unfold fits bound
  rw [sumTo_end]
  refine and_congr Iff.rfl (and_congr ?_ Iff.rfl)
  constructor
  · intro h j hj
    exact h _ (by rw [List.getD_eq_getElem?_getD, List.getElem?_eq_getElem hj]; exact List.getElem_mem hj)
  · intro h n hn
    obtain ⟨j, hj, rfl⟩ := List.mem_iff_getElem.1 hn
    have := h j hj
    rwa [List.getD_eq_getElem?_getD, List.getElem?_eq_getElem hj] at this
/-- the row when the first i of the sorted symbols have their codes -/
noncomputable def filled (l M : List Int) (i : Nat) : List Int := (List.range l.length).map fun s : Nat => open Classical in if (s : Int) ∈ M.take i then codeOf l s else 0
theorem filled_zero (l M : List Int) : filled l M 0 = List.replicate l.length 0 := by
  unfold filled
  apply List.ext_getElem?
  intro j
  rw [List.getElem?_map, List.getElem?_replicate]
  by_cases h : j < l.length
  · rw [List.getElem?_range h, if_pos h]; simp
  · rw [List.getElem?_eq_none (by simpa using h), if_neg h]; rfl
theorem filled_len (l M : List Int) (i : Nat) : (filled l M i).length = l.length := by unfold filled; simp
theorem filled_succ {l M : List Int} {i k : Nat} (hi : M[i]? = some (k : Int)) : filled l M (i + 1) = (filled l M i).set k (codeOf l k) := by
  obtain ⟨h1, h2⟩ := List.getElem?_eq_some_iff.1 hi
  apply List.ext_getElem?
  intro j
  rw [List.getElem?_set, filled_len]
  unfold filled
  rw [List.getElem?_map, List.getElem?_map]
  by_cases h : j < l.length
  · rw [List.getElem?_range h]
    simp only [Option.map_some]
    rw [List.take_succ_eq_append_getElem h1, h2]
    by_cases e : k = j
    · subst e
      rw [if_pos rfl, if_pos h, if_pos (by simp)]
    · rw [if_neg e]
      congr 1
      have : ((j : Int) ∈ M.take i ++ [(k : Int)]) ↔ ((j : Int) ∈ M.take i) := by
        rw [List.mem_append, List.mem_singleton]
        constructor
        · rintro (h | h)
          · exact h
          · omega
        · exact .inl
      simp only [this]
  · rw [List.getElem?_eq_none (by simpa using h)]
    by_cases e : k = j
    · subst e; rw [if_pos rfl, if_neg h]; rfl
    · rw [if_neg e]; rfl
theorem filled_end {l M : List Int} (hf : fits l) (hp : M.Perm (syms l)) : filled l M M.length = codes l := by
  unfold filled codes
  rw [List.take_length]
  apply List.map_congr_left
  intro s hs
  rw [List.mem_range] at hs
  have hm : (s : Int) ∈ M ↔ 0 < l.getD s 0 := by
    rw [hp.mem_iff, mem_syms]
    constructor
    · rintro ⟨k, _, h2, h3⟩
      have : s = k := by omega
      rw [this]; exact h2
    · exact fun h => ⟨s, hs, h, rfl⟩
  by_cases h : 0 < l.getD s 0
  · rw [if_pos (hm.2 h)]
  · have h0 : 0 ≤ l.getD s 0 := hf.2.1 _ (by rw [List.getD_eq_getElem?_getD, List.getElem?_eq_getElem hs]; exact List.getElem_mem hs) |>.1
    rw [if_neg (fun x => h (hm.1 x))]
    unfold codeOf
    rw [len_nat, if_pos (by omega)]
theorem codes_len (l : List Int) : (codes l).length = l.length := by unfold codes; simp
theorem codes_at {l : List Int} {k : Nat} (hk : k < l.length) : (codes l)[k]? = some (codeOf l k) := by unfold codes; rw [List.getElem?_map, List.getElem?_range hk]; rfl
end Go.Proofs.Ytfggcmbainhglaa.hf
namespace Go.Proofs.Ytfggcmbainhglaa.hl

inductive T where
  | leaf (c : Int) (s : Nat)
  | node (c : Int) (pa : Nat) (a : T) (pb : Nat) (b : T) (d : Int)
def cnt : T → Int
  | .leaf c _ => c
  | .node c _ _ _ _ _ => c
def dep : T → Int
  | .leaf _ _ => 0
  | .node _ _ _ _ _ d => d
def sub : T → Int
  | .leaf _ _ => 0
  | .node _ _ a _ b _ => max (cnt a) (cnt b)
def symsT : T → List Nat
  | .leaf _ s => [s]
  | .node _ _ a _ b _ => symsT a ++ symsT b
def cost : T → Int
  | .leaf _ _ => 0
  | .node c _ a _ b _ => c + cost a + cost b
def WF (counts : List Int) : T → Prop
  | .leaf c s => s < counts.length ∧ counts.getD s 0 = c ∧ 1 ≤ c
  | .node c _ a _ b d => c = cnt a + cnt b ∧ d = max (dep a) (dep b) + 1 ∧ WF counts a ∧ WF counts b
def lay : T → Int → List Int → List Int
  | .leaf _ s, d, out => out.set s d
  | .node _ _ a _ b _, d, out => lay b (d + 1) (lay a (d + 1) out)
/-- the two put together -/
def join (pa : Nat) (a : T) (pb : Nat) (b : T) : T := .node (cnt a + cnt b) pa a pb b (max (dep a) (dep b) + 1)
def fib : Nat → Nat
  | 0 => 0
  | 1 => 1
  | n + 2 => fib n + fib (n + 1)
theorem fib_le : ∀ n, fib n ≤ fib (n + 1)
  | 0 => by decide
  | 1 => by decide
  | n + 2 => by
    show fib n + fib (n + 1) ≤ fib (n + 1) + fib (n + 2)
    have := fib_le n
    have h2 : fib (n + 2) = fib n + fib (n + 1) := rfl
    omega
theorem fib_mono {m n : Nat} (h : m ≤ n) : fib m ≤ fib n := by
  induction h with
  | refl => exact Nat.le_refl _
  | step _ ih => exact Nat.le_trans ih (fib_le _)
theorem WF.dep0 {counts : List Int} : ∀ {t : T}, WF counts t → 0 ≤ dep t
  | .leaf _ _, _ => Int.le_refl _
  | .node c pa a pb b d, h => by
    have h1 := WF.dep0 h.2.2.1
    have h2 := h.2.1
    show 0 ≤ d
    omega
theorem WF.cnt1 {counts : List Int} : ∀ {t : T}, WF counts t → 1 ≤ cnt t
  | .leaf _ _, h => h.2.2
  | .node c pa a pb b d, h => by
    have h1 := WF.cnt1 h.2.2.1
    have h2 := WF.cnt1 h.2.2.2
    have h3 := h.1
    show 1 ≤ c
    omega
theorem WF.join {counts : List Int} {a b : T} (ha : WF counts a) (hb : WF counts b) (pa pb : Nat) : WF counts (hl.join pa a pb b) := ⟨rfl, rfl, ha, hb⟩
/-- not too deep for how often it comes -/
def Fb (t : T) : Prop := (fib (dep t + 1).toNat : Int) ≤ cnt t ∧ (fib (dep t).toNat : Int) ≤ sub t
theorem Fb.leaf {c : Int} {s : Nat} (h : 1 ≤ c) : Fb (.leaf c s) := ⟨h, Int.le_refl _⟩
theorem Fb.join {a b : T} (ha : Fb a) (hb : Fb b) (da : 0 ≤ dep a) (db : 0 ≤ dep b) (h1 : sub a ≤ cnt b) (h2 : sub b ≤ cnt a) (pa pb : Nat) : Fb (hl.join pa a pb b) := by
  have key : ∀ (x y : T), Fb x → 0 ≤ dep x → sub x ≤ cnt y → (fib (dep x + 1 + 1).toNat : Int) ≤ cnt x + cnt y ∧ (fib (dep x + 1).toNat : Int) ≤ cnt x := fun x y hx dx hs => by
    refine ⟨?_, hx.1⟩
    have e : (dep x + 1 + 1).toNat = (dep x).toNat + 2 := by omega
    have e1 : (dep x + 1).toNat = (dep x).toNat + 1 := by omega
    have hx1 := hx.1
    have hx2 := hx.2
    rw [e1] at hx1
    rw [e]
    show ((fib (dep x).toNat + fib ((dep x).toNat + 1) : Nat) : Int) ≤ _
    omega
  show (fib (max (dep a) (dep b) + 1 + 1).toNat : Int) ≤ cnt a + cnt b ∧ (fib (max (dep a) (dep b) + 1).toNat : Int) ≤ max (cnt a) (cnt b)
  by_cases c : dep b ≤ dep a
  · have k := key a b ha da h1
    rw [show max (dep a) (dep b) = dep a by omega]
    exact ⟨k.1, by omega⟩
  · have k := key b a hb db h2
    rw [show max (dep a) (dep b) = dep b by omega]
    exact ⟨by omega, by omega⟩
theorem Fb.dep_le {t : T} (h : Fb t) (hc : cnt t ≤ 67108864) : dep t ≤ 38 := by
  by_cases c : dep t ≤ 38
  · exact c
  · have h1 : fib 40 ≤ fib (dep t + 1).toNat := fib_mono (by omega)
    have h2 : fib 40 = 102334155 := by decide +kernel
    have := h.1
    omega

/-! ### The least cost -/
def sort (l : List Int) : List Int := l.mergeSort (fun a b => decide (a ≤ b))
theorem sort_perm (l : List Int) : (sort l).Perm l := List.mergeSort_perm l _
theorem sort_sorted (l : List Int) : (sort l).Pairwise (· ≤ ·) := by
  have h := List.pairwise_mergeSort (le := fun a b : Int => decide (a ≤ b)) (fun a b c h1 h2 => by simp at *; omega) (fun a b => by simp; omega) l
  exact h.imp (fun h => by simpa using h)
theorem sorted_unique : ∀ {l m : List Int}, l.Pairwise (· ≤ ·) → m.Pairwise (· ≤ ·) → l.Perm m → l = m
  | [], m, _, _, h => by rw [List.nil_perm.1 h]
  | x :: l, [], _, _, h => by simpa using h.length_eq
  | x :: l, y :: m, hl, hm, h => by
    have hx : x ∈ y :: m := h.subset (List.mem_cons_self ..)
    have hy : y ∈ x :: l := h.symm.subset (List.mem_cons_self ..)
    have e : x = y := by
      rcases List.mem_cons.1 hx with e | e
      · exact e
      · rcases List.mem_cons.1 hy with e2 | e2
        · exact e2.symm
        · have h1 := (List.pairwise_cons.1 hl).1 y e2
          have h2 := (List.pairwise_cons.1 hm).1 x e
          omega
    subst e
    rw [sorted_unique (List.pairwise_cons.1 hl).2 (List.pairwise_cons.1 hm).2 h.cons_inv]
theorem sort_congr {l m : List Int} (h : l.Perm m) : sort l = sort m := sorted_unique (sort_sorted l) (sort_sorted m) ((sort_perm l).trans (h.trans (sort_perm m).symm))
def hcF : Nat → List Int → Int
  | 0, _ => 0
  | n + 1, l => match sort l with
    | x :: y :: r => (x + y) + hcF n ((x + y) :: r)
    | _ => 0
def hc (l : List Int) : Int := hcF l.length l
theorem hcF_congr {n : Nat} {l m : List Int} (h : l.Perm m) : hcF n l = hcF n m := by
  cases n with
  | zero => rfl
  | succ n => unfold hcF; rw [sort_congr h]
theorem hc_congr {l m : List Int} (h : l.Perm m) : hc l = hc m := by unfold hc; rw [h.length_eq]; exact hcF_congr h
theorem hc_two {l r : List Int} {a b : Int} (h : l.Perm (a :: b :: r)) (hab : a ≤ b) (hb : ∀ x ∈ r, b ≤ x) : hc l = (a + b) + hc ((a + b) :: r) := by
  have e : sort l = a :: b :: sort r := by
    refine sorted_unique (sort_sorted l) ?_ ((sort_perm l).trans (h.trans (((sort_perm r).symm.cons b).cons a)))
    refine List.pairwise_cons.2 ⟨fun x hx => ?_, List.pairwise_cons.2 ⟨fun x hx => hb x ((sort_perm r).subset hx), sort_sorted r⟩⟩
    rcases List.mem_cons.1 hx with e | e
    · omega
    · have := hb x ((sort_perm r).subset e); omega
  rw [hc_congr h]
  have e2 : hc (a :: b :: r) = hcF (r.length + 1 + 1) (a :: b :: r) := rfl
  rw [e2, hcF, ← sort_congr h, e]
  show (a + b) + hcF (r.length + 1) ((a + b) :: sort r) = _
  rw [hcF_congr ((sort_perm r).cons (a + b))]
  rfl
theorem hc_few {l : List Int} (h : l.length ≤ 1) : hc l = 0 := by
  match l, h with
  | [], _ => rfl
  | [x], _ =>
    have e : sort [x] = [x] := sorted_unique (sort_sorted _) (List.pairwise_singleton _ _) (sort_perm _)
    show hcF 1 [x] = 0
    rw [hcF, e]

/-! ### A forest -/
def pos (counts : List Int) : List Nat := (List.range counts.length).filter fun s => decide (0 < counts.getD s 0)
def Sep (a b : T) : Prop := sub a ≤ cnt b ∧ sub b ≤ cnt a
structure FI (counts : List Int) (ts : List T) : Prop where
  wf : ∀ t ∈ ts, WF counts t
  fb : ∀ t ∈ ts, Fb t
  sep : ts.Pairwise Sep
  syms : (ts.flatMap symsT).Perm (pos counts)
  pay : (ts.map cost).sum + hc (ts.map cnt) = hc ((pos counts).map fun s => counts.getD s 0)
  tot : (ts.map cnt).sum = ((pos counts).map fun s => counts.getD s 0).sum
theorem perm_sum {l m : List Int} (h : l.Perm m) : l.sum = m.sum := by
  induction h with
  | nil => rfl
  | cons x _ ih => rw [List.sum_cons, List.sum_cons, ih]
  | swap x y l => rw [List.sum_cons, List.sum_cons, List.sum_cons, List.sum_cons]; omega
  | trans _ _ h1 h2 => rw [h1, h2]
theorem FI.perm {counts : List Int} {ts us : List T} (h : FI counts ts) (hp : us.Perm ts) : FI counts us := by
  refine ⟨fun t ht => h.wf t (hp.subset ht), fun t ht => h.fb t (hp.subset ht), (List.Perm.pairwise_iff (fun {a b} (h : Sep a b) => ⟨h.2, h.1⟩) hp).2 h.sep, (hp.flatMap_right _).trans h.syms, ?_, ?_⟩
  · rw [← h.pay, hc_congr (hp.map cnt), perm_sum (hp.map cost)]
  · rw [← h.tot, perm_sum (hp.map cnt)]
theorem FI.start (counts : List Int) : FI counts ((pos counts).map fun s => T.leaf (counts.getD s 0) s) := by
  have hpos : ∀ s ∈ pos counts, s < counts.length ∧ 0 < counts.getD s 0 := fun s hs => by
    unfold pos at hs
    rw [List.mem_filter, List.mem_range] at hs
    exact ⟨hs.1, by simpa using hs.2⟩
  refine ⟨fun t ht => ?_, fun t ht => ?_, ?_, ?_, ?_, ?_⟩
  · obtain ⟨s, hs, rfl⟩ := List.mem_map.1 ht
    exact ⟨(hpos s hs).1, rfl, (hpos s hs).2⟩
  · obtain ⟨s, hs, rfl⟩ := List.mem_map.1 ht
    exact Fb.leaf (hpos s hs).2
  · rw [List.pairwise_map]
    refine List.Pairwise.imp_of_mem ?_ (List.pairwise_of_forall (R := fun _ _ => True) (fun _ _ => trivial))
    intro s t hs ht _
    exact ⟨by show 0 ≤ counts.getD t 0; have := (hpos t ht).2; omega, by show 0 ≤ counts.getD s 0; have := (hpos s hs).2; omega⟩
  · rw [List.flatMap_map]
    have : (pos counts).flatMap (fun s => symsT (T.leaf (counts.getD s 0) s)) = pos counts := by
      show (pos counts).flatMap (fun s => [s]) = pos counts
      simp
    rw [this]
  · rw [List.map_map, List.map_map]
    have e1 : ((pos counts).map (cost ∘ fun s => T.leaf (counts.getD s 0) s)).sum = 0 := by
      induction pos counts with
      | nil => rfl
      | cons s l ih => rw [List.map_cons, List.sum_cons, ih]; rfl
    rw [e1, Int.zero_add]
    rfl
  · rw [List.map_map]
    rfl
theorem FI.step {counts : List Int} {ts r : List T} {a b : T} (h : FI counts ts) (hp : ts.Perm (a :: b :: r)) (ha : ∀ t ∈ ts, cnt a ≤ cnt t) (hb : ∀ t ∈ r, cnt b ≤ cnt t) (pa pb : Nat) : FI counts (join pa a pb b :: r) := by
  have h2 := h.perm hp.symm
  have hs := h2.sep
  rw [List.pairwise_cons, List.pairwise_cons] at hs
  obtain ⟨hs1, hs2, hs3⟩ := hs
  have wa := h2.wf a (by simp)
  have wb := h2.wf b (by simp)
  have hsab := hs1 b (by simp)
  have hab : cnt a ≤ cnt b := ha b (hp.symm.subset (by simp))
  refine ⟨fun t ht => ?_, fun t ht => ?_, ?_, ?_, ?_, ?_⟩
  · rcases List.mem_cons.1 ht with rfl | e
    · exact wa.join wb pa pb
    · exact h2.wf t (by simp [e])
  · rcases List.mem_cons.1 ht with rfl | e
    · exact (h2.fb a (by simp)).join (h2.fb b (by simp)) wa.dep0 wb.dep0 hsab.1 hsab.2 pa pb
    · exact h2.fb t (by simp [e])
  · refine List.pairwise_cons.2 ⟨fun u hu => ?_, hs3⟩
    have h1 := hb u hu
    have h3 := (hs1 u (by simp [hu])).2
    have h4 := wb.cnt1
    exact ⟨by show max (cnt a) (cnt b) ≤ cnt u; omega, by show sub u ≤ cnt a + cnt b; omega⟩
  · have e := h2.syms
    rw [List.flatMap_cons, List.flatMap_cons, ← List.append_assoc] at e
    rw [List.flatMap_cons]
    exact e
  · have e := h2.pay
    rw [List.map_cons, List.map_cons, List.map_cons, List.map_cons, List.sum_cons, List.sum_cons] at e
    rw [hc_two (List.Perm.refl _) hab (fun x hx => by obtain ⟨t, ht, rfl⟩ := List.mem_map.1 hx; exact hb t ht)] at e
    rw [List.map_cons, List.map_cons, List.sum_cons]
    show cnt a + cnt b + cost a + cost b + (r.map cost).sum + hc ((cnt a + cnt b) :: r.map cnt) = _
    omega
  · have e := h2.tot
    rw [List.map_cons, List.map_cons, List.sum_cons, List.sum_cons] at e
    rw [List.map_cons, List.sum_cons]
    show cnt a + cnt b + (r.map cnt).sum = _
    omega

/-! ### The lengths -/
def dot : List Int → List Int → Int
  | x :: l, y :: m => x * y + dot l m
  | _, _ => 0
theorem dot_set : ∀ (l m : List Int) (i : Nat) (v : Int), i < l.length → i < m.length → dot (l.set i v) m = dot l m + (v - l.getD i 0) * m.getD i 0
  | [], _, _, _, h, _ => by simp at h
  | _ :: _, [], _, _, _, h => by simp at h
  | x :: l, y :: m, 0, v, _, _ => by
    show v * y + dot l m = x * y + dot l m + (v - x) * y
    rw [Int.sub_mul]
    omega
  | x :: l, y :: m, i + 1, v, h1, h2 => by
    show x * y + dot (l.set i v) m = x * y + dot l m + (v - l.getD i 0) * m.getD i 0
    rw [dot_set l m i v (by simpa using h1) (by simpa using h2)]
    omega
def kp (n : Int) : Nat := if 0 < n then hf.part n else 0
def ks (l : List Int) : Nat := (l.map kp).sum
theorem ks_set : ∀ (l : List Int) (i : Nat) (v : Int), i < l.length → ks (l.set i v) + kp (l.getD i 0) = ks l + kp v
  | [], _, _, h => by simp at h
  | x :: l, 0, v, _ => by
    show ks (v :: l) + kp x = ks (x :: l) + kp v
    unfold ks
    rw [List.map_cons, List.map_cons, List.sum_cons, List.sum_cons]
    omega
  | x :: l, i + 1, v, h => by
    have ih := ks_set l i v (by simpa using h)
    have e : (x :: l).getD (i + 1) 0 = l.getD i 0 := rfl
    rw [List.set_cons_succ, e]
    unfold ks at ih ⊢
    rw [List.map_cons, List.map_cons, List.sum_cons, List.sum_cons]
    omega
theorem ks_syms (l : List Int) : hf.sumP (hf.partOf l) (hf.syms l) = ks l := by
  have key : ∀ k, k ≤ l.length → hf.sumP (hf.partOf l) (hf.symsTo l k) = ((l.take k).map kp).sum := by
    intro k
    induction k with
    | zero => intro _; rfl
    | succ k ih =>
      intro hk
      rw [hf.symsTo_succ, hf.sumP_append, ih (by omega), List.take_add_one, List.getElem?_eq_getElem (by omega), List.map_append, List.sum_append]
      congr 1
      have e : l.getD k 0 = l[k] := by rw [List.getD_eq_getElem?_getD, List.getElem?_eq_getElem (by omega)]; rfl
      rw [e]
      show _ = (kp l[k] + 0)
      unfold kp
      split
      · rw [hf.sumP_one]
        unfold hf.partOf
        rw [hf.len_nat, e]
        rfl
      · rfl
  rw [← hf.symsTo_end, key _ (Nat.le_refl _), List.take_length]
  rfl
theorem lay_length : ∀ (t : T) (d : Int) (out : List Int), (lay t d out).length = out.length
  | .leaf _ _, _, _ => List.length_set
  | .node _ _ a _ b _, d, out => by rw [lay, lay_length b, lay_length a]
theorem getD_set0 {l : List Int} {i k : Nat} {x : Int} (h : i < l.length) : (l.set i x).getD k 0 = if k = i then x else l.getD k 0 := by
  rw [List.getD_eq_getElem?_getD, List.getD_eq_getElem?_getD]
  by_cases e : k = i
  · subst e
    rw [if_pos rfl, List.getElem?_set_self h]
    rfl
  · rw [if_neg e, List.getElem?_set_ne (fun x => e x.symm)]
theorem WF.syms {counts : List Int} : ∀ {t : T}, WF counts t → ∀ s ∈ symsT t, s < counts.length
  | .leaf _ _, h, s, hs => by
    rw [symsT, List.mem_singleton] at hs
    subst hs
    exact h.1
  | .node _ _ a _ b _, h, s, hs => by
    rw [symsT, List.mem_append] at hs
    rcases hs with hs | hs
    · exact WF.syms h.2.2.1 s hs
    · exact WF.syms h.2.2.2 s hs
theorem lay_not {counts : List Int} : ∀ (t : T) (d : Int) (out : List Int), WF counts t → out.length = counts.length → ∀ s, s ∉ symsT t → (lay t d out).getD s 0 = out.getD s 0
  | .leaf c x, d, out, h, hl, s, hs => by
    rw [lay, getD_set0 (by rw [hl]; exact h.1), if_neg (fun e => hs (by rw [symsT, e]; simp))]
  | .node c pa a pb b e, d, out, h, hl, s, hs => by
    rw [symsT, List.mem_append] at hs
    rw [lay, lay_not b (d + 1) _ h.2.2.2 (by rw [lay_length, hl]) s (fun e => hs (.inr e)), lay_not a (d + 1) out h.2.2.1 hl s (fun e => hs (.inl e))]
theorem lay_in {counts : List Int} : ∀ (t : T) (d : Int) (out : List Int), WF counts t → out.length = counts.length → ∀ s, s ∈ symsT t → d ≤ (lay t d out).getD s 0 ∧ (lay t d out).getD s 0 ≤ d + dep t ∧ (0 < dep t → d + 1 ≤ (lay t d out).getD s 0)
  | .leaf c x, d, out, h, hl, s, hs => by
    rw [symsT, List.mem_singleton] at hs
    subst hs
    rw [lay, getD_set0 (by rw [hl]; exact h.1), if_pos rfl]
    show d ≤ d ∧ d ≤ d + 0 ∧ (0 < (0 : Int) → _)
    omega
  | .node c pa a pb b e, d, out, h, hl, s, hs => by
    have he : e = max (dep a) (dep b) + 1 := h.2.1
    rw [lay]
    show d ≤ _ ∧ _ ≤ d + e ∧ (0 < e → _)
    by_cases c2 : s ∈ symsT b
    · have := lay_in b (d + 1) (lay a (d + 1) out) h.2.2.2 (by rw [lay_length, hl]) s c2
      omega
    · rw [lay_not b (d + 1) _ h.2.2.2 (by rw [lay_length, hl]) s c2]
      rw [symsT, List.mem_append] at hs
      have := lay_in a (d + 1) out h.2.2.1 hl s (hs.resolve_right c2)
      omega
theorem lay_dot {counts : List Int} : ∀ (t : T) (d : Int) (out : List Int), WF counts t → out.length = counts.length → (symsT t).Nodup → (∀ s ∈ symsT t, out.getD s 0 = 0) → dot (lay t d out) counts = dot out counts + d * cnt t + cost t
  | .leaf c x, d, out, h, hl, hn, hz => by
    rw [lay, dot_set _ _ _ _ (by rw [hl]; exact h.1) h.1, hz x (by rw [symsT]; simp), h.2.1]
    show _ = _ + d * c + 0
    rw [Int.sub_zero, Int.add_zero]
  | .node c pa a pb b e, d, out, h, hl, hn, hz => by
    rw [symsT, List.nodup_append] at hn
    rw [lay, lay_dot b (d + 1) _ h.2.2.2 (by rw [lay_length, hl]) hn.2.1 (fun s hs => by
      rw [lay_not a (d + 1) out h.2.2.1 hl s (fun e => hn.2.2 s e s hs rfl)]
      exact hz s (by rw [symsT]; simp [hs])), lay_dot a (d + 1) out h.2.2.1 hl hn.1 (fun s hs => hz s (by rw [symsT]; simp [hs]))]
    show _ = _ + d * c + (c + cost a + cost b)
    have hc : c = cnt a + cnt b := h.1
    rw [hc, Int.mul_add, Int.add_mul, Int.add_mul]
    omega
theorem part_two {d : Int} (h0 : 0 ≤ d) (h : d + 1 ≤ 40) : hf.part (d + 1) + hf.part (d + 1) = hf.part d := by
  unfold hf.part
  rw [show 40 - d.toNat = (40 - (d + 1).toNat) + 1 by omega, Nat.pow_succ]
  omega
theorem lay_ks {counts : List Int} : ∀ (t : T) (d : Int) (out : List Int), WF counts t → out.length = counts.length → (symsT t).Nodup → (∀ s ∈ symsT t, out.getD s 0 = 0) → 0 ≤ d → 0 < d + dep t → d + dep t ≤ 40 → ks (lay t d out) = ks out + hf.part d
  | .leaf c x, d, out, h, hl, hn, hz, h0, h1, h2 => by
    have e := ks_set out x d (by rw [hl]; exact h.1)
    rw [hz x (by rw [symsT]; simp)] at e
    rw [lay]
    have h1' : 0 < d + 0 := h1
    have e2 : kp 0 = 0 := rfl
    have e3 : kp d = hf.part d := by unfold kp; rw [if_pos (by omega)]
    omega
  | .node c pa a pb b e, d, out, h, hl, hn, hz, h0, h1, h2 => by
    have he : e = max (dep a) (dep b) + 1 := h.2.1
    have da := h.2.2.1.dep0
    have db := h.2.2.2.dep0
    have h2' : d + e ≤ 40 := h2
    rw [symsT, List.nodup_append] at hn
    rw [lay, lay_ks b (d + 1) _ h.2.2.2 (by rw [lay_length, hl]) hn.2.1 (fun s hs => by
      rw [lay_not a (d + 1) out h.2.2.1 hl s (fun e => hn.2.2 s e s hs rfl)]
      exact hz s (by rw [symsT]; simp [hs])) (by omega) (by omega) (by omega), lay_ks a (d + 1) out h.2.2.1 hl hn.1 (fun s hs => hz s (by rw [symsT]; simp [hs])) (by omega) (by omega) (by omega)]
    rw [Nat.add_assoc, part_two h0 (by omega)]
theorem mem_pos {counts : List Int} {s : Nat} : s ∈ pos counts ↔ s < counts.length ∧ 0 < counts.getD s 0 := by
  unfold pos
  rw [List.mem_filter, List.mem_range]
  simp
theorem pos_nodup (counts : List Int) : (pos counts).Nodup := List.nodup_range.filter _
theorem getD_le {counts : List Int} {b : Int} (hb : 0 ≤ b) (h : ∀ n ∈ counts, n ≤ b) (s : Nat) : counts.getD s 0 ≤ b := by
  rw [List.getD_eq_getElem?_getD]
  cases e : counts[s]? with
  | none => exact hb
  | some x => exact h x (List.mem_of_getElem? e)
theorem sum_le {b : Int} : ∀ {l : List Int}, (∀ x ∈ l, x ≤ b) → l.sum ≤ b * l.length
  | [], _ => by simp
  | x :: l, h => by
    have ih := sum_le (l := l) fun y hy => h y (by simp [hy])
    have hx := h x (by simp)
    rw [List.sum_cons, List.length_cons, Int.natCast_add, Int.mul_add]
    omega
theorem dot_zero : ∀ (n : Nat) (m : List Int), dot (List.replicate n 0) m = 0
  | 0, _ => rfl
  | _ + 1, [] => rfl
  | n + 1, y :: m => by
    rw [List.replicate_succ]
    show 0 * y + dot (List.replicate n 0) m = 0
    rw [dot_zero n m]
    omega
theorem ks_zero : ∀ n : Nat, ks (List.replicate n 0) = 0
  | 0 => rfl
  | n + 1 => by
    rw [List.replicate_succ]
    show kp 0 + ks (List.replicate n 0) = 0
    rw [ks_zero n]
    rfl
theorem getD_rep (n s : Nat) : (List.replicate n (0 : Int)).getD s 0 = 0 := by
  rw [List.getD_eq_getElem?_getD, List.getElem?_replicate]
  split <;> rfl
/-- what the law asks of lengths -/
structure Good (counts out : List Int) (cost : Int) : Prop where
  len : out.length = counts.length
  of : ∀ i, i < counts.length → (0 < out.getD i 0 ↔ 0 < counts.getD i 0)
  fits : hf.fits out
  cost : dot out counts = cost
theorem fits_of {out : List Int} (h1 : out.length ≤ 64) (h2 : ∀ i, 0 ≤ out.getD i 0 ∧ out.getD i 0 ≤ 40) (h3 : ks out ≤ 1099511627776) : hf.fits out := by
  refine ⟨h1, fun n hn => ?_, by rw [ks_syms]; exact h3⟩
  obtain ⟨i, hi⟩ := List.mem_iff_getElem?.1 hn
  have := h2 i
  rw [List.getD_eq_getElem?_getD, hi] at this
  exact this
theorem FI.total {counts : List Int} {t : T} (h : FI counts [t]) (hn : counts.length ≤ 64) (hr : ∀ n ∈ counts, n ≤ 1048576) : cnt t ≤ 67108864 := by
  have e := h.tot
  have e2 : ([t].map cnt).sum = cnt t := by simp
  rw [e2] at e
  have hl : (pos counts).length ≤ counts.length := by
    unfold pos
    refine Nat.le_trans (List.length_filter_le ..) ?_
    rw [List.length_range]
    exact Nat.le_refl _
  have := sum_le (l := (pos counts).map fun s => counts.getD s 0) (b := 1048576) (fun x hx => by
    obtain ⟨s, _, rfl⟩ := List.mem_map.1 hx
    exact getD_le (by omega) hr s)
  rw [List.length_map] at this
  omega
theorem good_tree {counts : List Int} {t : T} (h : FI counts [t]) (hn : counts.length ≤ 64) (hr : ∀ n ∈ counts, n ≤ 1048576) (hd : 0 < dep t) :
    Good counts (lay t 0 (List.replicate counts.length 0)) (hc ((pos counts).map fun s => counts.getD s 0)) ∧ dep t ≤ 38 := by
  have hw := h.wf t (by simp)
  have hdep := (h.fb t (by simp)).dep_le (h.total hn hr)
  have hsy : (symsT t).Perm (pos counts) := by simpa using h.syms
  have hnd : (symsT t).Nodup := hsy.nodup_iff.2 (pos_nodup counts)
  have hlr : (List.replicate counts.length (0 : Int)).length = counts.length := List.length_replicate
  have hks := lay_ks t 0 (List.replicate counts.length 0) hw hlr hnd (fun s _ => getD_rep _ s) (Int.le_refl _) (by omega) (by omega)
  have hdo := lay_dot t 0 (List.replicate counts.length 0) hw hlr hnd (fun s _ => getD_rep _ s)
  have hin := lay_in t 0 (List.replicate counts.length 0) hw hlr
  have hno := lay_not t 0 (List.replicate counts.length 0) hw hlr
  have hln := lay_length t 0 (List.replicate counts.length 0)
  rw [hlr] at hln
  rw [ks_zero] at hks
  rw [dot_zero] at hdo
  have hpay := h.pay
  have e2 : ([t].map cost).sum = cost t := by simp
  rw [e2, hc_few (l := [t].map cnt) (by simp)] at hpay
  refine ⟨⟨hln, fun i hi => ?_, fits_of (by omega) (fun i => ?_) ?_, by omega⟩, hdep⟩
  · by_cases c : i ∈ symsT t
    · have h1 := hin i c
      have h2 := (mem_pos.1 (hsy.subset c)).2
      constructor
      · intro _; exact h2
      · intro _; omega
    · rw [hno i c, getD_rep]
      constructor
      · intro e; omega
      · intro e
        exact absurd (hsy.symm.subset (mem_pos.2 ⟨hi, e⟩)) c
  · by_cases c : i ∈ symsT t
    · have h1 := hin i c
      omega
    · rw [hno i c, getD_rep]
      omega
  · rw [hks]
    have := hf.part_le 0
    omega
theorem good_one {counts : List Int} {s : Nat} (h : pos counts = [s]) (hn : counts.length ≤ 64) : Good counts ((List.replicate counts.length 0).set s 1) (counts.getD s 0) := by
  have hs := mem_pos.1 (by rw [h]; simp : s ∈ pos counts)
  have hlr : (List.replicate counts.length (0 : Int)).length = counts.length := List.length_replicate
  have hg := fun k => getD_set0 (l := List.replicate counts.length 0) (i := s) (k := k) (x := 1) (by rw [hlr]; exact hs.1)
  refine ⟨by rw [List.length_set, hlr], fun i hi => ?_, fits_of (by rw [List.length_set, hlr]; exact hn) (fun i => ?_) ?_, ?_⟩
  · rw [hg]
    by_cases c : i = s
    · rw [if_pos c, c]
      constructor
      · intro _; exact hs.2
      · intro _; omega
    · rw [if_neg c, getD_rep]
      constructor
      · intro e; omega
      · intro e
        have := mem_pos.2 ⟨hi, e⟩
        rw [h] at this
        exact absurd (List.mem_singleton.1 this) c
  · rw [hg]
    split
    · omega
    · rw [getD_rep]; omega
  · have e := ks_set (List.replicate counts.length 0) s 1 (by rw [hlr]; exact hs.1)
    rw [ks_zero, getD_rep] at e
    have e2 : kp 0 = 0 := rfl
    have e3 : kp 1 = hf.part 1 := rfl
    have := hf.part_le 1
    omega
  · rw [dot_set _ _ _ _ (by rw [hlr]; exact hs.1) hs.1, dot_zero, getD_rep]
    omega
theorem good_none {counts : List Int} (h : pos counts = []) (hn : counts.length ≤ 64) : Good counts (List.replicate counts.length 0) 0 := by
  refine ⟨List.length_replicate, fun i hi => ?_, fits_of (by rw [List.length_replicate]; exact hn) (fun i => by rw [getD_rep]; omega) (by rw [ks_zero]; omega), dot_zero _ _⟩
  rw [getD_rep]
  constructor
  · intro e; omega
  · intro e
    have := mem_pos.2 ⟨hi, e⟩
    rw [h] at this
    cases this
end Go.Proofs.Ytfggcmbainhglaa.hl
namespace Go.Proofs.Ytfggcmbainhglaa
section
variable {P : Program} {ops : Array Oper} {Q : Exit → Act → World → Prop} {md : Region.Mode} {S : World → Prop} {late : List Nat}

/-- none of the late operations has come up -/
def early (late : List Nat) (listed : Array Bool) : Bool := late.all fun k => !listed.getD k true
/-- Whatever order is picked from here on, and S holds behind every operation, as long as no late one has come up. -/
def wpAnyT (P : Program) (md : Region.Mode) (ops : Array Oper) (Q : Exit → Act → World → Prop) (S : World → Prop) (late : List Nat) : Nat → Array Bool → Act → World → Prop
  | 0, listed, a, w => Region.ready md ops listed = [] ∧ Q .normal a w
  | fuel + 1, listed, a, w =>
    (Region.ready md ops listed = [] → Q .normal a w) ∧
    ∀ i ∈ Region.ready md ops listed, wpOp P ops Q i (fun a' w' => (early late (listed.setIfInBounds i true) = true → S w') ∧ wpAnyT P md ops Q S late fuel (listed.setIfInBounds i true) a' w') a w

theorem wpAny_of_tail : ∀ (fuel : Nat) (listed : Array Bool) (a : Act) (w : World), wpAnyT P md ops Q S late fuel listed a w → wpAny P md ops Q fuel listed a w
  | 0, _, _, _, h => h
  | fuel + 1, _, _, _, h => ⟨h.1, fun i hi => wpOp_mono (fun a' w' h' => wpAny_of_tail fuel _ a' w' h'.2) (h.2 i hi)⟩

/-- the operations B wait for i, one through the other; the late ones are among them -/
def Behind (md : Region.Mode) (ops : Array Oper) (i : Nat) (B : List Nat) (listed : Array Bool) : Prop :=
  ∀ k, k ∈ B → listed.getD k true = false ∧ ∃ ok, ops[k]? = some ok ∧ ∃ e ∈ ok.after, Region.binds md e = true ∧ (e.on = i ∨ e.on ∈ B)
def behindB (md : Region.Mode) (ops : Array Oper) (i : Nat) (B : List Nat) (listed : Array Bool) : Bool :=
  B.all fun k => !listed.getD k true && match ops[k]? with
    | none => false
    | some ok => ok.after.any fun e => Region.binds md e && (e.on == i || B.contains e.on)
theorem behind_of {i : Nat} {B : List Nat} {listed : Array Bool} (h : behindB md ops i B listed = true) : Behind md ops i B listed := by
  intro k hk
  have h1 := List.all_eq_true.1 h k hk
  simp only [Bool.and_eq_true, Bool.not_eq_true'] at h1
  refine ⟨h1.1, ?_⟩
  have h2 := h1.2
  cases ho : ops[k]? with
  | none => rw [ho] at h2; cases h2
  | some ok =>
    rw [ho] at h2
    simp only at h2
    obtain ⟨e, he, hb⟩ := Array.any_eq_true'.1 h2
    simp only [Bool.and_eq_true, Bool.or_eq_true, beq_iff_eq, List.contains_iff_mem] at hb
    exact ⟨ok, rfl, e, he, hb.1, hb.2⟩

theorem getD_true_of {listed : Array Bool} {i : Nat} (h : listed.getD i true = false) : listed.getD i false = false := by
  rcases Nat.lt_or_ge i listed.size with h' | h'
  · simp [h'] at h ⊢; exact h
  · simp [Array.getElem?_eq_none h'] at h ⊢

theorem wpAnyT_first {i : Nat} {oi : Oper} {v : Value} {B : List Nat} (hi : ops[i]? = some oi) (hsel : ∀ (j : Nat) (o : Oper) cs b, ops[j]? = some o → o.op ≠ .select cs b)
    (hQ : ∀ c a w, Q (.panic c) (a.put oi.dst v) w → Q (.panic c) a w) (hlB : ∀ k, k ∈ late → k ∈ B) (hiB : i ∉ B) :
    ∀ (fuel : Nat) (listed : Array Bool) (a : Act) (w : World),
      (∀ j oj, ops[j]? = some oj → j ≠ i → listed.getD j true = false → (∀ e ∈ oj.after, Region.binds md e = true → e.on ≠ i) → oi.apart ops oj = true) →
      i ∈ Region.ready md ops listed → Behind md ops i B listed → YieldsIf P ops S oi v a → S w →
      wpAnyT P md ops Q S late fuel (listed.setIfInBounds i true) (a.put oi.dst v) w → wpAnyT P md ops Q S late (fuel + 1) listed a w := by
  intro fuel
  induction fuel with
  | zero =>
    intro listed a w _ hr hB hy hS H
    refine ⟨fun h => (by rw [h] at hr; cases hr), fun j hj => ?_⟩
    by_cases hji : j = i
    · subst hji; exact hy.wpOp hi hS ⟨fun _ => hS, H⟩
    · have := ready_mono hj hji
      rw [H.1] at this
      cases this
  | succ fuel ih =>
    intro listed a w hfree hr hB hy hS H
    refine ⟨fun h => (by rw [h] at hr; cases hr), fun j hj => ?_⟩
    by_cases hji : j = i
    · subst hji; exact hy.wpOp hi hS ⟨fun _ => hS, H⟩
    · have h1 := H.2 j (ready_mono hj hji)
      obtain ⟨hjun, oj, hoj, hall⟩ := mem_ready.1 hj
      have hiun := (mem_ready.1 hr).1
      have hnot : ∀ e ∈ oj.after, Region.binds md e = true → e.on ≠ i := fun e he hb heq => by
        have h1 := hall e he hb
        rw [heq, getD_true_of hiun] at h1
        cases h1
      have hjB : j ∉ B := fun hm => by
        obtain ⟨_, ok, hok, e, he, hb, hon⟩ := hB j hm
        rw [hoj] at hok
        cases hok
        rcases hon with hon | hon
        · exact hnot e he hb hon
        · have h1 := hall e he hb
          rw [getD_true_of (hB e.on hon).1] at h1
          cases h1
      have hB' : Behind md ops i B (listed.setIfInBounds j true) := fun k hk => by
        obtain ⟨h0, h2⟩ := hB k hk
        refine ⟨?_, h2⟩
        rw [getD_set_ne true (by intro e; subst e; exact hjB hk)]
        exact h0
      have hearly : early late ((listed.setIfInBounds i true).setIfInBounds j true) = true := by
        unfold early
        rw [List.all_eq_true]
        intro k hk
        have hkB := hlB k hk
        rw [getD_set_ne true (by intro e; subst e; exact hjB hkB), getD_set_ne true (by intro e; subst e; exact hiB hkB), (hB k hkB).1]
        rfl
      have h2 := wpOp_putIf hoj (hfree j oj hoj hji hjun hnot) (fun cs b => hsel i oi cs b hi) (fun cs b => hsel j oj cs b hoj) hQ hy h1
      have hfree' : ∀ k ok, ops[k]? = some ok → k ≠ i → (listed.setIfInBounds j true).getD k true = false →
          (∀ e ∈ ok.after, Region.binds md e = true → e.on ≠ i) → oi.apart ops ok = true := fun k ok hk hki hun hno => by
        refine hfree k ok hk hki ?_ hno
        by_cases hjk : j = k
        · subst hjk; exact hjun
        · rw [getD_set_ne true hjk] at hun; exact hun
      refine wpOp_mono (fun a' w' h3 => ⟨fun _ => h3.2.1 hearly, ih (listed.setIfInBounds j true) a' w' hfree' (ready_mono hr (Ne.symm hji)) hB' h3.1 (h3.2.1 hearly) ?_⟩) h2
      rw [Array.setIfInBounds_comm _ _ hji]
      exact h3.2.2

/-- Number i is taken first: B: operations that wait for i, one through the other, the late ones among them. -/
theorem wpAnyT_take {i : Nat} {oi : Oper} {v : Value} (B : List Nat) {fuel : Nat} {listed : Array Bool} {a : Act} {w : World} (hi : ops[i]? = some oi)
    (hs : Region.noSelect ops = true) (hf : Region.free md ops listed i = true) (hr : (Region.ready md ops listed).contains i = true)
    (hB : (behindB md ops i B listed && late.all (fun k => B.contains k) && !B.contains i) = true)
    (hQ : ∀ c a w, Q (.panic c) (a.put oi.dst v) w → Q (.panic c) a w) (hy : YieldsIf P ops S oi v a) (hS : S w)
    (h : wpAnyT P md ops Q S late fuel (listed.setIfInBounds i true) (a.put oi.dst v) w) : wpAnyT P md ops Q S late (fuel + 1) listed a w := by
  simp only [Bool.and_eq_true, Bool.not_eq_true'] at hB
  refine wpAnyT_first hi (Region.noSelect_spec hs) hQ (B := B) (fun k hk => ?_) (fun hm => ?_) fuel listed a w (Region.free_spec hi hf) (by simpa using hr) (behind_of hB.1.1) hy hS h
  · have := List.all_eq_true.1 hB.1.2 k hk
    simpa using this
  · have := hB.2
    rw [List.contains_iff_mem.2 hm] at this
    cases this
/-- the operations that wait for i, one through the other -/
def waiting (md : Region.Mode) (ops : Array Oper) (i : Nat) : List Nat :=
  (List.range ops.size).foldl (fun B k => if (match ops[k]? with | none => false | some ok => ok.after.any fun e => Region.binds md e && (e.on == i || B.contains e.on)) then B ++ [k] else B) []
/-- What yields in whatever world is taken first, whoever waits for it: S is asked of nobody. -/
theorem wpAnyT_pure {i : Nat} {oi : Oper} {v : Value} {fuel : Nat} {listed : Array Bool} {a : Act} {w : World} (hi : ops[i]? = some oi)
    (hs : Region.noSelect ops = true) (hf : Region.free md ops listed i = true) (hr : (Region.ready md ops listed).contains i = true)
    (hQ : ∀ c a w, Q (.panic c) (a.put oi.dst v) w → Q (.panic c) a w) (hy : Yields P ops oi v a) (hS : early late (listed.setIfInBounds i true) = true → S w)
    (h : wpAnyT P md ops Q S late fuel (listed.setIfInBounds i true) (a.put oi.dst v) w) (hE : ¬ i ∈ late) : wpAnyT P md ops Q S late (fuel + 1) listed a w := by
  have hsel := Region.noSelect_spec hs
  have key : ∀ (fuel : Nat) (listed : Array Bool) (a : Act) (w : World),
      (∀ j oj, ops[j]? = some oj → j ≠ i → listed.getD j true = false → (∀ e ∈ oj.after, Region.binds md e = true → e.on ≠ i) → oi.apart ops oj = true) →
      i ∈ Region.ready md ops listed → Yields P ops oi v a → (early late (listed.setIfInBounds i true) = true → S w) →
      wpAnyT P md ops Q S late fuel (listed.setIfInBounds i true) (a.put oi.dst v) w → wpAnyT P md ops Q S late (fuel + 1) listed a w := by
    intro fuel
    induction fuel with
    | zero =>
      intro listed a w _ hr hy hS H
      refine ⟨fun h => (by rw [h] at hr; cases hr), fun j hj => ?_⟩
      by_cases hji : j = i
      · subst hji; exact hy.yieldsIf.wpOp (S := fun _ => True) hi trivial ⟨hS, H⟩
      · have := ready_mono hj hji
        rw [H.1] at this
        cases this
    | succ fuel ih =>
      intro listed a w hfree hr hy hS H
      refine ⟨fun h => (by rw [h] at hr; cases hr), fun j hj => ?_⟩
      by_cases hji : j = i
      · subst hji; exact hy.yieldsIf.wpOp (S := fun _ => True) hi trivial ⟨hS, H⟩
      · have h1 := H.2 j (ready_mono hj hji)
        obtain ⟨hjun, oj, hoj, hall⟩ := mem_ready.1 hj
        have hiun := (mem_ready.1 hr).1
        have hnot : ∀ e ∈ oj.after, Region.binds md e = true → e.on ≠ i := fun e he hb heq => by
          have h1 := hall e he hb
          rw [heq, getD_true_of hiun] at h1
          cases h1
        have h2 := wpOp_putIf (S := fun _ => True) hoj (hfree j oj hoj hji hjun hnot) (fun cs b => hsel i oi cs b hi) (fun cs b => hsel j oj cs b hoj) hQ hy.yieldsIf h1
        have hfree' : ∀ k ok, ops[k]? = some ok → k ≠ i → (listed.setIfInBounds j true).getD k true = false →
            (∀ e ∈ ok.after, Region.binds md e = true → e.on ≠ i) → oi.apart ops ok = true := fun k ok hk hki hun hno => by
          refine hfree k ok hk hki ?_ hno
          by_cases hjk : j = k
          · subst hjk; exact hjun
          · rw [getD_set_ne true hjk] at hun; exact hun
        have hear : early late ((listed.setIfInBounds i true).setIfInBounds j true) = early late (listed.setIfInBounds j true) := by
          unfold early
          rw [Bool.eq_iff_iff, List.all_eq_true, List.all_eq_true]
          have one : ∀ k, k ∈ late → ((listed.setIfInBounds i true).setIfInBounds j true).getD k true = (listed.setIfInBounds j true).getD k true := fun k hk => by
            rw [Array.setIfInBounds_comm _ _ (Ne.symm hji), getD_set_ne true (by intro e; subst e; exact hE hk)]
          exact ⟨fun h k hk => by rw [← one k hk]; exact h k hk, fun h k hk => by rw [one k hk]; exact h k hk⟩
        refine wpOp_mono (fun a' w' h3 => ⟨fun he => h3.2.1 (hear.trans he), ih (listed.setIfInBounds j true) a' w' hfree' (ready_mono hr (Ne.symm hji)) ?_ (fun he => h3.2.1 (by rw [Array.setIfInBounds_comm _ _ hji] at *; exact he)) ?_⟩) h2
        · rcases h3.1 with ⟨h4, h5⟩ | ⟨h4, h5⟩
          · exact .inl ⟨h4, fun w => h5 w trivial⟩
          · exact .inr ⟨h4, h5⟩
        · rw [Array.setIfInBounds_comm _ _ hji]
          exact h3.2.2
  exact key fuel listed a w (Region.free_spec hi hf) (by simpa using hr) hy hS h
/-- One operation alone may come up. -/
theorem wpAnyT_next {i : Nat} {o : Oper} {fuel : Nat} {listed : Array Bool} {a : Act} {w : World} (hr : Region.ready md ops listed = [i]) (ho : ops[i]? = some o)
    (h : ∀ K : Act → World → Prop, Shut (∀ a w, (early late (listed.setIfInBounds i true) = true → S w) → wpAnyT P md ops Q S late fuel (listed.setIfInBounds i true) a w → K a w) → if Region.wanted o (yielded ops a.tmps) = true then Oper.wp P o a w K Q else K (a.put o.dst undef) w) :
    wpAnyT P md ops Q S late (fuel + 1) listed a w := by
  refine ⟨fun h0 => (by rw [hr] at h0; cases h0), fun j hj => ?_⟩
  rw [hr, List.mem_singleton] at hj
  subst hj
  exact wpOp_step ho (fun K' hK => h K' (fun a w hS hW => hK a w ⟨hS, hW⟩))
theorem wpAnyT_done {listed : Array Bool} {a : Act} {w : World} (hr : Region.ready md ops listed = []) (h : Q .normal a w) : ∀ fuel, wpAnyT P md ops Q S late fuel listed a w
  | 0 => ⟨hr, h⟩
  | _ + 1 => ⟨fun _ => h, by rw [hr]; simp⟩
theorem wp_region_tail (late : List Nat) (S : World → Prop) {id : Nat} {a : Act} {w : World} (hm : P.follows .mixedOrders = true) (hS : S w.drew)
    (h : S w.drew → wpAnyT P .any ops Q S late ops.size (Array.replicate ops.size false) a w.drew) : (Code.region id ops true).wp P Q a w :=
  wp_region_any hm (wpAny_of_tail _ _ _ _ (h hS))
end
end Go.Proofs.Ytfggcmbainhglaa
namespace Go.Proofs.Ytfggcmbainhglaa
section
variable {P : Program} {ops : Array Oper} {Q : Exit → Act → World → Prop} {md : Region.Mode} {S : World → Prop} {late : List Nat}
theorem wpAnyT_fork {i j : Nat} {oi oj : Oper} {fuel : Nat} {listed : Array Bool} {a : Act} {w : World} (hr : Region.ready md ops listed = [i, j]) (hoi : ops[i]? = some oi) (hoj : ops[j]? = some oj)
    (hi : ∀ K : Act → World → Prop, Shut (∀ a w, (early late (listed.setIfInBounds i true) = true → S w) → wpAnyT P md ops Q S late fuel (listed.setIfInBounds i true) a w → K a w) → if Region.wanted oi (yielded ops a.tmps) = true then Oper.wp P oi a w K Q else K (a.put oi.dst undef) w)
    (hj : ∀ K : Act → World → Prop, Shut (∀ a w, (early late (listed.setIfInBounds j true) = true → S w) → wpAnyT P md ops Q S late fuel (listed.setIfInBounds j true) a w → K a w) → if Region.wanted oj (yielded ops a.tmps) = true then Oper.wp P oj a w K Q else K (a.put oj.dst undef) w) :
    wpAnyT P md ops Q S late (fuel + 1) listed a w := by
  refine ⟨fun h0 => (by rw [hr] at h0; cases h0), fun k hk => ?_⟩
  rw [hr, List.mem_cons, List.mem_singleton] at hk
  rcases hk with rfl | rfl
  · exact wpOp_step hoi (fun K' hK => hi K' (fun a w hS hW => hK a w ⟨hS, hW⟩))
  · exact wpOp_step hoj (fun K' hK => hj K' (fun a w hS hW => hK a w ⟨hS, hW⟩))
end
end Go.Proofs.Ytfggcmbainhglaa
namespace Go.Proofs.Ytfggcmbainhglaa
open Go.RowKit
set_option linter.unusedSimpArgs false

def ho.cmpI (x y : Int) : Int := if x < y then -1 else if y < x then 1 else 0
theorem ho.cmpI_bd (x y : Int) : -1 ≤ ho.cmpI x y ∧ ho.cmpI x y ≤ 1 := by
  unfold ho.cmpI
  split
  · omega
  · split <;> omega
set_option maxHeartbeats 400000 in
theorem ho_isNaN (x : Int) (w : World) : Calls Try.prog 52 #[.int .i64 x] w fun e w' => e = .returned (.bool false) ∧ w = w' := by
  have hx : (x != x) = false := by simp
  go_enter Try.func52, Try.ntmps52
  go_wp2
  go_ret
  exact ⟨rfl, rfl⟩
set_option maxHeartbeats 400000 in
theorem ho_Compare (x y : Int) (w : World) : Calls Try.prog 39 #[.int .i64 x, .int .i64 y] w fun e w' => e = .returned (.int .i64 (ho.cmpI x y)) ∧ w = w' := by
  rcases Int.lt_trichotomy x y with h | h | h
  · have HE : Hid (ho.cmpI x y = -1) := Lib.hid (by unfold ho.cmpI; rw [if_pos h])
    go_enter Try.func39, Try.ntmps39
    go_wp2_with (go_at_call 52; refine (ho_isNaN _ _).mono ?_; rintro e w' ⟨rfl, rfl⟩)
    go_ret
    exact ⟨ret_int HE.out.symm, rfl⟩
  · have HE : Hid (ho.cmpI x y = 0) := Lib.hid (by unfold ho.cmpI; rw [if_neg (by omega), if_neg (by omega)])
    have h1 : ¬ x < y := by omega
    have h2 : ¬ y < x := by omega
    clear h
    go_enter Try.func39, Try.ntmps39
    go_wp2_with (go_at_call 52; refine (ho_isNaN _ _).mono ?_; rintro e w' ⟨rfl, rfl⟩)
    go_ret
    exact ⟨ret_int HE.out.symm, rfl⟩
  · have HE : Hid (ho.cmpI x y = 1) := Lib.hid (by unfold ho.cmpI; rw [if_neg (by omega), if_pos h])
    have h1 : ¬ x < y := by omega
    go_enter Try.func39, Try.ntmps39
    go_wp2_with (go_at_call 52; refine (ho_isNaN _ _).mono ?_; rintro e w' ⟨rfl, rfl⟩)
    go_ret
    exact ⟨ret_int HE.out.symm, rfl⟩
def ho.or (x y : Int) : Int := if x = 0 then y else x
set_option maxHeartbeats 400000 in
theorem cmp_Or (x y : Int) (g : Nat) (w : World) (h0 : w.cell? ⟨g, 0, none⟩ = some (.int .i64 x)) (h1 : w.cell? ⟨g, 1, none⟩ = some (.int .i64 y)) (hg : g < w.heap.size) : Calls Try.prog 82 #[.slice (some ⟨g, 0, none⟩) 2 2] w fun e w' => e = .returned (.int .i64 (ho.or x y)) ∧ w = w' := by
  by_cases c : x = 0
  · have HE : Hid (ho.or x y = y) := Lib.hid (by unfold ho.or; rw [if_pos c])
    have HC := Lib.hid c
    subst c
    by_cases d : y = 0
    · subst d
      go_enter Try.func82, Try.ntmps82
      go_wp2
      go_loop [8] (fun i => ∃ k : Nat, k ≤ 2 ∧ i = .int .i64 (k : Int)) (fun i => 2 - (intOf i).toNat)
      case atStart => exact ⟨0, by omega, rfl⟩
      case round =>
        obtain ⟨k, hk, rfl⟩ := hrel
        have hk3 : k = 0 ∨ k = 1 ∨ k = 2 := by omega
        rcases hk3 with rfl | rfl | rfl
        · go_wp2
          go_round
          case rel => exact ⟨1, by omega, rfl⟩
          case measure => simp [intOf]
        · go_wp2
          go_round
          case rel => exact ⟨2, by omega, rfl⟩
          case measure => simp [intOf]
        · go_wp2
          go_ret
          exact ⟨ret_int HE.out.symm, rfl⟩
    · have hd : (y != 0) = true := by simpa using d
      go_enter Try.func82, Try.ntmps82
      go_wp2
      go_loop [8] (fun i => ∃ k : Nat, k ≤ 1 ∧ i = .int .i64 (k : Int)) (fun i => 2 - (intOf i).toNat)
      case atStart => exact ⟨0, by omega, rfl⟩
      case round =>
        obtain ⟨k, hk, rfl⟩ := hrel
        have hk3 : k = 0 ∨ k = 1 := by omega
        rcases hk3 with rfl | rfl
        · go_wp2
          go_round
          case rel => exact ⟨1, by omega, rfl⟩
          case measure => simp [intOf]
        · go_wp2
          go_ret
          exact ⟨ret_int HE.out.symm, rfl⟩
  · have HE : Hid (ho.or x y = x) := Lib.hid (by unfold ho.or; rw [if_neg c])
    have hd : (x != 0) = true := by simpa using c
    go_enter Try.func82, Try.ntmps82
    go_wp2
    go_loop [8] (fun i => i = .int .i64 0) (fun i => 2 - (intOf i).toNat)
    case atStart => rfl
    case round =>
      subst hrel
      go_wp2
      go_ret
      exact ⟨ret_int HE.out.symm, rfl⟩
/-- a tree in memory -/
def TAt (w : World) : Nat → hl.T → Prop
  | p, .leaf c s => BlkA w p 50 #[.int .i64 c, .int .i64 (s : Int), .pointer none, .pointer none, .int .i64 0]
  | p, .node c pa a pb b d => BlkA w p 50 #[.int .i64 c, .int .i64 0, .pointer (some ⟨pa, 0, none⟩), .pointer (some ⟨pb, 0, none⟩), .int .i64 d] ∧ TAt w pa a ∧ TAt w pb b
def ho.ec (x : Nat × hl.T) : Value := .pointer (some ⟨x.1, 0, none⟩)
def ho.ek (x : Nat × hl.T) : Int := hl.cnt x.2 * 128 + hl.dep x.2
def ho.ez : Nat × hl.T := (0, .leaf 0 0)
theorem TAt.head {w : World} {p : Nat} {t : hl.T} (h : TAt w p t) : ∃ s q r, BlkA w p 50 #[.int .i64 (hl.cnt t), .int .i64 s, .pointer q, .pointer r, .int .i64 (hl.dep t)] := by
  cases t with
  | leaf c s => exact ⟨s, none, none, h⟩
  | node c pa a pb b d => exact ⟨0, _, _, h.1⟩
/-- a tree lies as it lay where no tree's block was turned -/
theorem TAt.stays {w w' : World} {No : Nat → Prop} (hs : Stays w w' No) (hn : ∀ k cs, BlkA w k 50 cs → ¬ No k) : ∀ {t : hl.T} {p : Nat}, TAt w p t → TAt w' p t
  | .leaf _ _, p, h => BlkA.stays h hs (hn p _ h)
  | .node _ pa a pb b _, p, h => ⟨h.1.stays hs (hn p _ h.1), TAt.stays hs hn h.2.1, TAt.stays hs hn h.2.2⟩
theorem TAt.next {w w' : World} (hb : Below w.heap.size w w') {t : hl.T} {p : Nat} (h : TAt w p t) : TAt w' p t := TAt.stays (Stays.of_below hb (fun _ => False)) (fun _ _ _ e => e) h
/-- a row of trees -/
structure RowT (w : World) (B : Nat) (A : Option Addr) (c : Nat) (fs : List (Nat × hl.T)) : Prop where
  row : Own w B 47 1 A fs.length c (fs.map ho.ec)
  tr : ∀ x ∈ fs, TAt w x.1 x.2
theorem treeNeRow : 47 ≠ 50 := by decide
theorem RowT.next {w w' : World} {B : Nat} {A : Option Addr} {c : Nat} {fs : List (Nat × hl.T)} (h : RowT w B A c fs) (hb : Below w.heap.size w w') : RowT w' B A c fs := ⟨h.row.next hb, fun x hx => (h.tr x hx).next hb⟩
theorem RowT.stays {w w' : World} {No : Nat → Prop} {B : Nat} {A : Option Addr} {c : Nat} {fs : List (Nat × hl.T)} (h : RowT w B A c fs) (hs : Stays w w' No) (h1 : ∀ k, blkOf A = some k → ¬ No k) (h2 : ∀ k cs, BlkA w k 50 cs → ¬ No k) : RowT w' B A c fs := ⟨h.row.stays hs h1, fun x hx => (h.tr x hx).stays hs h2⟩
theorem ho.getD_mem {fs : List (Nat × hl.T)} {i : Nat} (h : i < fs.length) : fs.getD i ho.ez ∈ fs := by rw [List.getD_eq_getElem?_getD, List.getElem?_eq_getElem h]; exact List.getElem_mem h
theorem ho.getD_some {fs : List (Nat × hl.T)} {i : Nat} (h : i < fs.length) : fs[i]? = some (fs.getD i ho.ez) := by rw [List.getD_eq_getElem?_getD, List.getElem?_eq_getElem h]; rfl
theorem RowT.at_ {w : World} {B : Nat} {A : Option Addr} {c : Nat} {fs : List (Nat × hl.T)} (h : RowT w B A c fs) {i : Nat} (hi : i < fs.length) : ∃ g, A = some ⟨g, 0, none⟩ ∧ B ≤ g ∧ g < w.heap.size ∧ w.cell? ⟨g, i, none⟩ = some (.pointer (some ⟨(fs.getD i ho.ez).1, 0, none⟩)) :=
  h.row.cell (by rw [List.getElem?_map, ho.getD_some hi]; rfl)
theorem ho.key {c1 c2 d1 d2 : Int} (h1 : 0 ≤ d1 ∧ d1 < 128) (h2 : 0 ≤ d2 ∧ d2 < 128) : decide (ho.or (ho.cmpI c1 c2) (ho.cmpI d1 d2) < 0) = decide (c1 * 128 + d1 < c2 * 128 + d2) := by
  unfold ho.or ho.cmpI
  refine decide_eq_decide.2 ?_
  by_cases a : c1 < c2
  · rw [if_pos a, if_neg (by decide)]
    omega
  · by_cases b : c2 < c1
    · rw [if_neg a, if_pos b, if_neg (by decide)]
      omega
    · rw [if_neg a, if_neg b, if_pos rfl]
      by_cases d : d1 < d2
      · rw [if_pos d]
        omega
      · rw [if_neg d]
        split <;> omega
set_option maxHeartbeats 400000 in
theorem forest_Len (A : Option Addr) (n c : Nat) (w : World) : Calls Try.prog 79 #[.slice A n c] w fun e w' => e = .returned (.int .i64 (n : Int)) ∧ w = w' := by
  go_enter Try.func79, Try.ntmps79
  go_wp2
  go_ret
  exact ⟨rfl, rfl⟩
/-- so deep is none -/
def ho.Low (fs : List (Nat × hl.T)) : Prop := ∀ x ∈ fs, 0 ≤ hl.dep x.2 ∧ hl.dep x.2 < 128
set_option maxRecDepth 100000 in
set_option maxHeartbeats 1000000 in
theorem forest_Less (B : Nat) (A : Option Addr) (c : Nat) (fs : List (Nat × hl.T)) (i j : Nat) (w : World) (h : RowT w B A c fs) (hi : i < fs.length) (hj : j < fs.length) (hlow : ho.Low fs) :
    Calls Try.prog 80 #[.slice A fs.length c, .int .i64 (i : Int), .int .i64 (j : Int)] w fun e w' => e = .returned (.bool (decide (ho.ek (fs.getD i ho.ez) < ho.ek (fs.getD j ho.ez)))) ∧ Below w.heap.size w w' := by
  obtain ⟨g, rfl, _, hg, a0⟩ := h.at_ hi
  obtain ⟨g', e, _, _, b0⟩ := h.at_ hj
  simp only [Option.some.injEq, Addr.mk.injEq, and_true] at e
  subst e
  obtain ⟨s1, q1, r1, x1⟩ := (h.tr _ (ho.getD_mem hi)).head
  obtain ⟨s2, q2, r2, x2⟩ := (h.tr _ (ho.getD_mem hj)).head
  have hk := ho.key (c1 := hl.cnt (fs.getD i ho.ez).2) (c2 := hl.cnt (fs.getD j ho.ez).2) (hlow _ (ho.getD_mem hi)) (hlow _ (ho.getD_mem hj))
  have HK : Hid (decide (ho.ek (fs.getD i ho.ez) < ho.ek (fs.getD j ho.ez)) = decide (ho.or (ho.cmpI (hl.cnt (fs.getD i ho.ez).2) (hl.cnt (fs.getD j ho.ez).2)) (ho.cmpI (hl.dep (fs.getD i ho.ez).2) (hl.dep (fs.getD j ho.ez).2)) < 0)) := Lib.hid hk.symm
  have X1 := Lib.hid x1
  have X2 := Lib.hid x2
  have hi' : (i : Int) < (fs.length : Int) := by omega
  have hj' : (j : Int) < (fs.length : Int) := by omega
  have hlen : fs.length ≤ 9223372036854775807 := by have := h.row.cap; unfold maxLen at this; omega
  rw [HK.out]
  clear hk x1 x2 HK
  generalize fs.getD i ho.ez = u at *
  generalize fs.getD j ho.ez = v at *
  obtain ⟨p, t⟩ := u
  obtain ⟨q, t'⟩ := v
  simp only at a0 b0 X1 X2 ⊢
  generalize hl.cnt t = c1 at *
  generalize hl.cnt t' = c2 at *
  generalize hl.dep t = d1 at *
  generalize hl.dep t' = d2 at *
  have HSS : Hid (∀ wx, Below w.heap.size w wx → wx.cell? ⟨g, i, none⟩ = some (.pointer (some ⟨p, 0, none⟩)) ∧ wx.cell? ⟨g, j, none⟩ = some (.pointer (some ⟨q, 0, none⟩)) ∧ wx.cell? ⟨p, 0, none⟩ = some (.int .i64 c1) ∧ wx.cell? ⟨q, 0, none⟩ = some (.int .i64 c2) ∧ wx.cell? ⟨p, 4, none⟩ = some (.int .i64 d1) ∧ wx.cell? ⟨q, 4, none⟩ = some (.int .i64 d2)) := Lib.hid (fun wx hb => ⟨(hb.cell (p := ⟨g, i, none⟩) hg).trans a0, (hb.cell (p := ⟨g, j, none⟩) hg).trans b0, (X1.out.next hb).get 0, (X2.out.next hb).get 0, (X1.out.next hb).get 4, (X2.out.next hb).get 4⟩)
  have l1 := X1.out.lt
  have l2 := X2.out.lt
  clear h hi hj
  go_enter Try.func80, Try.ntmps80
  go_upto_region 1 with (fail)
  --<less
  refine wp_region_tail [] (fun wx => wx.cell? ⟨g, i, none⟩ = some (.pointer (some ⟨p, 0, none⟩)) ∧ wx.cell? ⟨g, j, none⟩ = some (.pointer (some ⟨q, 0, none⟩)) ∧ wx.cell? ⟨p, 0, none⟩ = some (.int .i64 c1) ∧ wx.cell? ⟨q, 0, none⟩ = some (.int .i64 c2) ∧ wx.cell? ⟨p, 4, none⟩ = some (.int .i64 d1) ∧ wx.cell? ⟨q, 4, none⟩ = some (.int .i64 d2)) (by kernel_rfl) (HSS.out w (bself _)) ?_
  intro hHeld
  refine wpAnyT_pure (i := 0) (v := ?_) rfl (by kernel_rfl) (by kernel_rfl) (by kernel_rfl) (fun _ _ _ h => h) (.inl ⟨by kernel_rfl, ?_⟩) (fun _ => hHeld) ?_ (by decide)
  rotate_left
  · intro w9; go_simp; try with_reducible rfl
  try simp only [Act.put, List.getElem_toArray, List.getElem_cons_succ, List.getElem_cons_zero, List.setIfInBounds_toArray, List.set_cons_zero, List.set_cons_succ]
  refine wpAnyT_pure (i := 1) (v := ?_) rfl (by kernel_rfl) (by kernel_rfl) (by kernel_rfl) (fun _ _ _ h => h) (.inl ⟨by kernel_rfl, ?_⟩) (fun _ => hHeld) ?_ (by decide)
  rotate_left
  · intro w9; go_simp; try with_reducible rfl
  try simp only [Act.put, List.getElem_toArray, List.getElem_cons_succ, List.getElem_cons_zero, List.setIfInBounds_toArray, List.set_cons_zero, List.set_cons_succ]
  refine wpAnyT_pure (i := 2) (v := ?_) rfl (by kernel_rfl) (by kernel_rfl) (by kernel_rfl) (fun _ _ _ h => h) (.inl ⟨by kernel_rfl, ?_⟩) (fun _ => hHeld) ?_ (by decide)
  rotate_left
  · intro w9; go_simp; try with_reducible rfl
  try simp only [Act.put, List.getElem_toArray, List.getElem_cons_succ, List.getElem_cons_zero, List.setIfInBounds_toArray, List.set_cons_zero, List.set_cons_succ]
  refine wpAnyT_pure (i := 7) (v := ?_) rfl (by kernel_rfl) (by kernel_rfl) (by kernel_rfl) (fun _ _ _ h => h) (.inl ⟨by kernel_rfl, ?_⟩) (fun _ => hHeld) ?_ (by decide)
  rotate_left
  · intro w9; go_simp; try with_reducible rfl
  try simp only [Act.put, List.getElem_toArray, List.getElem_cons_succ, List.getElem_cons_zero, List.setIfInBounds_toArray, List.set_cons_zero, List.set_cons_succ]
  refine wpAnyT_pure (i := 8) (v := ?_) rfl (by kernel_rfl) (by kernel_rfl) (by kernel_rfl) (fun _ _ _ h => h) (.inl ⟨by kernel_rfl, ?_⟩) (fun _ => hHeld) ?_ (by decide)
  rotate_left
  · intro w9; go_simp; try with_reducible rfl
  try simp only [Act.put, List.getElem_toArray, List.getElem_cons_succ, List.getElem_cons_zero, List.setIfInBounds_toArray, List.set_cons_zero, List.set_cons_succ]
  refine wpAnyT_pure (i := 9) (v := ?_) rfl (by kernel_rfl) (by kernel_rfl) (by kernel_rfl) (fun _ _ _ h => h) (.inl ⟨by kernel_rfl, ?_⟩) (fun _ => hHeld) ?_ (by decide)
  rotate_left
  · intro w9; go_simp; try with_reducible rfl
  try simp only [Act.put, List.getElem_toArray, List.getElem_cons_succ, List.getElem_cons_zero, List.setIfInBounds_toArray, List.set_cons_zero, List.set_cons_succ]
  refine wpAnyT_pure (i := 15) (v := ?_) rfl (by kernel_rfl) (by kernel_rfl) (by kernel_rfl) (fun _ _ _ h => h) (.inl ⟨by kernel_rfl, ?_⟩) (fun _ => hHeld) ?_ (by decide)
  rotate_left
  · intro w9; go_simp; try with_reducible rfl
  try simp only [Act.put, List.getElem_toArray, List.getElem_cons_succ, List.getElem_cons_zero, List.setIfInBounds_toArray, List.set_cons_zero, List.set_cons_succ]
  refine wpAnyT_pure (i := 16) (v := ?_) rfl (by kernel_rfl) (by kernel_rfl) (by kernel_rfl) (fun _ _ _ h => h) (.inl ⟨by kernel_rfl, ?_⟩) (fun _ => hHeld) ?_ (by decide)
  rotate_left
  · intro w9; go_simp; try with_reducible rfl
  try simp only [Act.put, List.getElem_toArray, List.getElem_cons_succ, List.getElem_cons_zero, List.setIfInBounds_toArray, List.set_cons_zero, List.set_cons_succ]
  refine wpAnyT_pure (i := 17) (v := ?_) rfl (by kernel_rfl) (by kernel_rfl) (by kernel_rfl) (fun _ _ _ h => h) (.inl ⟨by kernel_rfl, ?_⟩) (fun _ => hHeld) ?_ (by decide)
  rotate_left
  · intro w9; go_simp; try with_reducible rfl
  try simp only [Act.put, List.getElem_toArray, List.getElem_cons_succ, List.getElem_cons_zero, List.setIfInBounds_toArray, List.set_cons_zero, List.set_cons_succ]
  refine wpAnyT_pure (i := 22) (v := ?_) rfl (by kernel_rfl) (by kernel_rfl) (by kernel_rfl) (fun _ _ _ h => h) (.inl ⟨by kernel_rfl, ?_⟩) (fun _ => hHeld) ?_ (by decide)
  rotate_left
  · intro w9; go_simp; try with_reducible rfl
  try simp only [Act.put, List.getElem_toArray, List.getElem_cons_succ, List.getElem_cons_zero, List.setIfInBounds_toArray, List.set_cons_zero, List.set_cons_succ]
  refine wpAnyT_pure (i := 23) (v := ?_) rfl (by kernel_rfl) (by kernel_rfl) (by kernel_rfl) (fun _ _ _ h => h) (.inl ⟨by kernel_rfl, ?_⟩) (fun _ => hHeld) ?_ (by decide)
  rotate_left
  · intro w9; go_simp; try with_reducible rfl
  try simp only [Act.put, List.getElem_toArray, List.getElem_cons_succ, List.getElem_cons_zero, List.setIfInBounds_toArray, List.set_cons_zero, List.set_cons_succ]
  refine wpAnyT_pure (i := 24) (v := ?_) rfl (by kernel_rfl) (by kernel_rfl) (by kernel_rfl) (fun _ _ _ h => h) (.inl ⟨by kernel_rfl, ?_⟩) (fun _ => hHeld) ?_ (by decide)
  rotate_left
  · intro w9; go_simp; try with_reducible rfl
  try simp only [Act.put, List.getElem_toArray, List.getElem_cons_succ, List.getElem_cons_zero, List.setIfInBounds_toArray, List.set_cons_zero, List.set_cons_succ]
  refine wpAnyT_take (i := 3) [] (v := ?_) rfl (by kernel_rfl) (by kernel_rfl) (by kernel_rfl) (by kernel_rfl) (fun _ _ _ h => h) (.inl ⟨by kernel_rfl, ?_⟩) hHeld ?_
  rotate_left
  · intro w9 hS9; (try dsimp only at hS9); obtain ⟨q1, q2, q3, q4, q5, q6⟩ := hS9; go_simp; try with_reducible rfl
  try simp only [Act.put, List.getElem_toArray, List.getElem_cons_succ, List.getElem_cons_zero, List.setIfInBounds_toArray, List.set_cons_zero, List.set_cons_succ]
  refine wpAnyT_pure (i := 4) (v := ?_) rfl (by kernel_rfl) (by kernel_rfl) (by kernel_rfl) (fun _ _ _ h => h) (.inl ⟨by kernel_rfl, ?_⟩) (fun _ => hHeld) ?_ (by decide)
  rotate_left
  · intro w9; go_simp; try with_reducible rfl
  try simp only [Act.put, List.getElem_toArray, List.getElem_cons_succ, List.getElem_cons_zero, List.setIfInBounds_toArray, List.set_cons_zero, List.set_cons_succ]
  refine wpAnyT_pure (i := 5) (v := ?_) rfl (by kernel_rfl) (by kernel_rfl) (by kernel_rfl) (fun _ _ _ h => h) (.inl ⟨by kernel_rfl, ?_⟩) (fun _ => hHeld) ?_ (by decide)
  rotate_left
  · intro w9; go_simp; try with_reducible rfl
  try simp only [Act.put, List.getElem_toArray, List.getElem_cons_succ, List.getElem_cons_zero, List.setIfInBounds_toArray, List.set_cons_zero, List.set_cons_succ]
  refine wpAnyT_take (i := 6) [] (v := ?_) rfl (by kernel_rfl) (by kernel_rfl) (by kernel_rfl) (by kernel_rfl) (fun _ _ _ h => h) (.inl ⟨by kernel_rfl, ?_⟩) hHeld ?_
  rotate_left
  · intro w9 hS9; (try dsimp only at hS9); obtain ⟨q1, q2, q3, q4, q5, q6⟩ := hS9; go_simp; try with_reducible rfl
  try simp only [Act.put, List.getElem_toArray, List.getElem_cons_succ, List.getElem_cons_zero, List.setIfInBounds_toArray, List.set_cons_zero, List.set_cons_succ]
  refine wpAnyT_take (i := 10) [] (v := ?_) rfl (by kernel_rfl) (by kernel_rfl) (by kernel_rfl) (by kernel_rfl) (fun _ _ _ h => h) (.inl ⟨by kernel_rfl, ?_⟩) hHeld ?_
  rotate_left
  · intro w9 hS9; (try dsimp only at hS9); obtain ⟨q1, q2, q3, q4, q5, q6⟩ := hS9; go_simp; try with_reducible rfl
  try simp only [Act.put, List.getElem_toArray, List.getElem_cons_succ, List.getElem_cons_zero, List.setIfInBounds_toArray, List.set_cons_zero, List.set_cons_succ]
  refine wpAnyT_pure (i := 11) (v := ?_) rfl (by kernel_rfl) (by kernel_rfl) (by kernel_rfl) (fun _ _ _ h => h) (.inl ⟨by kernel_rfl, ?_⟩) (fun _ => hHeld) ?_ (by decide)
  rotate_left
  · intro w9; go_simp; try with_reducible rfl
  try simp only [Act.put, List.getElem_toArray, List.getElem_cons_succ, List.getElem_cons_zero, List.setIfInBounds_toArray, List.set_cons_zero, List.set_cons_succ]
  refine wpAnyT_pure (i := 12) (v := ?_) rfl (by kernel_rfl) (by kernel_rfl) (by kernel_rfl) (fun _ _ _ h => h) (.inl ⟨by kernel_rfl, ?_⟩) (fun _ => hHeld) ?_ (by decide)
  rotate_left
  · intro w9; go_simp; try with_reducible rfl
  try simp only [Act.put, List.getElem_toArray, List.getElem_cons_succ, List.getElem_cons_zero, List.setIfInBounds_toArray, List.set_cons_zero, List.set_cons_succ]
  refine wpAnyT_take (i := 13) [] (v := ?_) rfl (by kernel_rfl) (by kernel_rfl) (by kernel_rfl) (by kernel_rfl) (fun _ _ _ h => h) (.inl ⟨by kernel_rfl, ?_⟩) hHeld ?_
  rotate_left
  · intro w9 hS9; (try dsimp only at hS9); obtain ⟨q1, q2, q3, q4, q5, q6⟩ := hS9; go_simp; try with_reducible rfl
  try simp only [Act.put, List.getElem_toArray, List.getElem_cons_succ, List.getElem_cons_zero, List.setIfInBounds_toArray, List.set_cons_zero, List.set_cons_succ]
  refine wpAnyT_take (i := 18) [] (v := ?_) rfl (by kernel_rfl) (by kernel_rfl) (by kernel_rfl) (by kernel_rfl) (fun _ _ _ h => h) (.inl ⟨by kernel_rfl, ?_⟩) hHeld ?_
  rotate_left
  · intro w9 hS9; (try dsimp only at hS9); obtain ⟨q1, q2, q3, q4, q5, q6⟩ := hS9; go_simp; try with_reducible rfl
  try simp only [Act.put, List.getElem_toArray, List.getElem_cons_succ, List.getElem_cons_zero, List.setIfInBounds_toArray, List.set_cons_zero, List.set_cons_succ]
  refine wpAnyT_pure (i := 19) (v := ?_) rfl (by kernel_rfl) (by kernel_rfl) (by kernel_rfl) (fun _ _ _ h => h) (.inl ⟨by kernel_rfl, ?_⟩) (fun _ => hHeld) ?_ (by decide)
  rotate_left
  · intro w9; go_simp; try with_reducible rfl
  try simp only [Act.put, List.getElem_toArray, List.getElem_cons_succ, List.getElem_cons_zero, List.setIfInBounds_toArray, List.set_cons_zero, List.set_cons_succ]
  refine wpAnyT_pure (i := 20) (v := ?_) rfl (by kernel_rfl) (by kernel_rfl) (by kernel_rfl) (fun _ _ _ h => h) (.inl ⟨by kernel_rfl, ?_⟩) (fun _ => hHeld) ?_ (by decide)
  rotate_left
  · intro w9; go_simp; try with_reducible rfl
  try simp only [Act.put, List.getElem_toArray, List.getElem_cons_succ, List.getElem_cons_zero, List.setIfInBounds_toArray, List.set_cons_zero, List.set_cons_succ]
  refine wpAnyT_take (i := 21) [] (v := ?_) rfl (by kernel_rfl) (by kernel_rfl) (by kernel_rfl) (by kernel_rfl) (fun _ _ _ h => h) (.inl ⟨by kernel_rfl, ?_⟩) hHeld ?_
  rotate_left
  · intro w9 hS9; (try dsimp only at hS9); obtain ⟨q1, q2, q3, q4, q5, q6⟩ := hS9; go_simp; try with_reducible rfl
  try simp only [Act.put, List.getElem_toArray, List.getElem_cons_succ, List.getElem_cons_zero, List.setIfInBounds_toArray, List.set_cons_zero, List.set_cons_succ]
  refine wpAnyT_take (i := 25) [] (v := ?_) rfl (by kernel_rfl) (by kernel_rfl) (by kernel_rfl) (by kernel_rfl) (fun _ _ _ h => h) (.inl ⟨by kernel_rfl, ?_⟩) hHeld ?_
  rotate_left
  · intro w9 hS9; (try dsimp only at hS9); obtain ⟨q1, q2, q3, q4, q5, q6⟩ := hS9; go_simp; try with_reducible rfl
  try simp only [Act.put, List.getElem_toArray, List.getElem_cons_succ, List.getElem_cons_zero, List.setIfInBounds_toArray, List.set_cons_zero, List.set_cons_succ]
  refine wpAnyT_pure (i := 26) (v := ?_) rfl (by kernel_rfl) (by kernel_rfl) (by kernel_rfl) (fun _ _ _ h => h) (.inl ⟨by kernel_rfl, ?_⟩) (fun _ => hHeld) ?_ (by decide)
  rotate_left
  · intro w9; go_simp; try with_reducible rfl
  try simp only [Act.put, List.getElem_toArray, List.getElem_cons_succ, List.getElem_cons_zero, List.setIfInBounds_toArray, List.set_cons_zero, List.set_cons_succ]
  refine wpAnyT_pure (i := 27) (v := ?_) rfl (by kernel_rfl) (by kernel_rfl) (by kernel_rfl) (fun _ _ _ h => h) (.inl ⟨by kernel_rfl, ?_⟩) (fun _ => hHeld) ?_ (by decide)
  rotate_left
  · intro w9; go_simp; try with_reducible rfl
  try simp only [Act.put, List.getElem_toArray, List.getElem_cons_succ, List.getElem_cons_zero, List.setIfInBounds_toArray, List.set_cons_zero, List.set_cons_succ]
  refine wpAnyT_take (i := 28) [] (v := ?_) rfl (by kernel_rfl) (by kernel_rfl) (by kernel_rfl) (by kernel_rfl) (fun _ _ _ h => h) (.inl ⟨by kernel_rfl, ?_⟩) hHeld ?_
  rotate_left
  · intro w9 hS9; (try dsimp only at hS9); obtain ⟨q1, q2, q3, q4, q5, q6⟩ := hS9; go_simp; try with_reducible rfl
  try simp only [Act.put, List.getElem_toArray, List.getElem_cons_succ, List.getElem_cons_zero, List.setIfInBounds_toArray, List.set_cons_zero, List.set_cons_succ]
  refine wpAnyT_next (i := 14) (by kernel_rfl) rfl ?_
  intro K hK
  go_simp
  go_at_call 39
  refine (ho_Compare _ _ _).mono ?_
  rintro e _ ⟨rfl, rfl⟩
  go_simp
  have hHeld2 := hHeld
  refine hK.out _ _ (fun _ => hHeld2) ?_
  clear hK K hHeld
  have hHeld := hHeld2
  clear hHeld2
  try simp only [Act.put, List.getElem_toArray, List.getElem_cons_succ, List.getElem_cons_zero, List.setIfInBounds_toArray, List.set_cons_zero, List.set_cons_succ]
  refine wpAnyT_next (i := 29) (by kernel_rfl) rfl ?_
  intro K hK
  go_simp
  go_at_call 39
  refine (ho_Compare _ _ _).mono ?_
  rintro e _ ⟨rfl, rfl⟩
  go_simp
  have hHeld2 := hHeld
  refine hK.out _ _ (fun _ => hHeld2) ?_
  clear hK K hHeld
  have hHeld := hHeld2
  clear hHeld2
  try simp only [Act.put, List.getElem_toArray, List.getElem_cons_succ, List.getElem_cons_zero, List.setIfInBounds_toArray, List.set_cons_zero, List.set_cons_succ]
  refine wpAnyT_next (i := 30) (by kernel_rfl) rfl ?_
  intro K hK
  go_simp
  refine hK.out _ _ (fun _ => (HSS.out _ (by exact (by repeat (first | (with_reducible exact Below.refl _ _) | (with_reducible assumption) | (with_reducible refine bset ?_ ?_ _) | (with_reducible refine balloc ?_ _) | (with_reducible refine Below.drew ?_) | (with_reducible refine bdrewN ?_ _) | (with_reducible refine bnext ?_ (by with_reducible assumption)) | exact Nat.le_refl _ | (simp; done) | omega | (simp; omega)))))) ?_
  clear hK K
  try simp only [Act.put, List.getElem_toArray, List.getElem_cons_succ, List.getElem_cons_zero, List.setIfInBounds_toArray, List.set_cons_zero, List.set_cons_succ]
  refine wpAnyT_next (i := 31) (by kernel_rfl) rfl ?_
  intro K hK
  go_simp
  go_at_call 82
  refine (cmp_Or (ho.cmpI c1 c2) (ho.cmpI d1 d2) w.heap.size _ (by go_simp) (by go_simp) (by simp)).mono ?_
  rintro e w9 ⟨rfl, hw9⟩
  have hb9 : Below w.heap.size w w9 := by rw [← hw9]; exact (by repeat (first | (with_reducible exact Below.refl _ _) | (with_reducible assumption) | (with_reducible refine bset ?_ ?_ _) | (with_reducible refine balloc ?_ _) | (with_reducible refine Below.drew ?_) | (with_reducible refine bdrewN ?_ _) | (with_reducible refine bnext ?_ (by with_reducible assumption)) | exact Nat.le_refl _ | (simp; done) | omega | (simp; omega)))
  have hs9 := HSS.out w9 hb9
  clear hw9
  go_simp
  have hHeld2 := hs9
  refine hK.out _ _ (fun _ => hHeld2) ?_
  clear hK K hHeld
  have hHeld := hHeld2
  clear hHeld2
  try simp only [Act.put, List.getElem_toArray, List.getElem_cons_succ, List.getElem_cons_zero, List.setIfInBounds_toArray, List.set_cons_zero, List.set_cons_succ]
  refine wpAnyT_pure (i := 32) (v := ?_) rfl (by kernel_rfl) (by kernel_rfl) (by kernel_rfl) (fun _ _ _ h => h) (.inl ⟨by kernel_rfl, ?_⟩) (fun _ => hHeld) ?_ (by decide)
  rotate_left
  · intro w9; go_simp; try with_reducible rfl
  try simp only [Act.put, List.getElem_toArray, List.getElem_cons_succ, List.getElem_cons_zero, List.setIfInBounds_toArray, List.set_cons_zero, List.set_cons_succ]
  refine wpAnyT_pure (i := 33) (v := ?_) rfl (by kernel_rfl) (by kernel_rfl) (by kernel_rfl) (fun _ _ _ h => h) (.inl ⟨by kernel_rfl, ?_⟩) (fun _ => hHeld) ?_ (by decide)
  rotate_left
  · intro w9; go_simp; try with_reducible rfl
  try simp only [Act.put, List.getElem_toArray, List.getElem_cons_succ, List.getElem_cons_zero, List.setIfInBounds_toArray, List.set_cons_zero, List.set_cons_succ]
  refine wpAnyT_done (by kernel_rfl) ?_ _
  --less>
  go_wp2
  go_ret
  exact ⟨rfl, (by repeat (first | (with_reducible exact Below.refl _ _) | (with_reducible assumption) | (with_reducible refine bset ?_ ?_ _) | (with_reducible refine balloc ?_ _) | (with_reducible refine Below.drew ?_) | (with_reducible refine bdrewN ?_ _) | (with_reducible refine bnext ?_ (by with_reducible assumption)) | exact Nat.le_refl _ | (simp; done) | omega | (simp; omega)))⟩
set_option maxHeartbeats 1000000 in
theorem forest_Swap (B : Nat) (A : Option Addr) (c : Nat) (fs : List (Nat × hl.T)) (i j : Nat) (w : World) (h : RowT w B A c fs) (hi : i < fs.length) (hj : j < fs.length) :
    Calls Try.prog 81 #[.slice A fs.length c, .int .i64 (i : Int), .int .i64 (j : Int)] w fun e w' => e = .returned (.tuple #[]) ∧ RowT w' B A c (hp.swap ho.ez fs i j) ∧ Stays w w' (fun k => blkOf A = some k) := by
  obtain ⟨g, rfl, _, hg, a0⟩ := h.at_ hi
  obtain ⟨g', e, _, _, b0⟩ := h.at_ hj
  simp only [Option.some.injEq, Addr.mk.injEq, and_true] at e
  subst e
  have HFIN : Hid (∀ w', w' = ((w.setCell ⟨g, i, none⟩ (.pointer (some ⟨(fs.getD j ho.ez).1, 0, none⟩))).setCell ⟨g, j, none⟩ (.pointer (some ⟨(fs.getD i ho.ez).1, 0, none⟩))).drew → RowT w' B (some ⟨g, 0, none⟩) c (hp.swap ho.ez fs i j) ∧ Stays w w' (fun k => blkOf (some ⟨g, 0, none⟩) = some k)) := Lib.hid (fun w' hw => by
    have hs : Stays w w' (fun k => blkOf (some ⟨g, 0, none⟩) = some k) := by
      rw [hw]
      exact (((Stays.set _ _ _ _).mono fun k _ e => by rw [e]; rfl).comp ((Stays.set _ _ _ _).mono fun k _ e => by rw [e]; rfl)).comp (Stays.of_below (Below.drew (bself _)) _)
    have hr := ((h.row.setAt (j := i) (ho.ec (fs.getD j ho.ez))).setAt (j := j) (ho.ec (fs.getD i ho.ez))).drew
    refine ⟨⟨?_, fun x hx => ?_⟩, hs⟩
    · rw [hw]
      have e1 : (hp.swap ho.ez fs i j).map ho.ec = (((fs.map ho.ec).set i (ho.ec (fs.getD j ho.ez))).set j (ho.ec (fs.getD i ho.ez))) := by
        unfold hp.swap
        rw [List.map_set, List.map_set]
      rw [e1, hp.swap_length]
      exact hr
    · have hm : x ∈ fs := (hp.swap_perm ho.ez hi hj).subset hx
      exact (h.tr x hm).stays hs (fun k cs hb e => hb.apart h.row treeNeRow e))
  have hi' : (i : Int) < (fs.length : Int) := by omega
  have hj' : (j : Int) < (fs.length : Int) := by omega
  have hlen : fs.length ≤ 9223372036854775807 := by have := h.row.cap; unfold maxLen at this; omega
  have fz := fun o => h.row.frozenAt o
  generalize (fs.getD i ho.ez).1 = p at *
  generalize (fs.getD j ho.ez).1 = q at *
  obtain ⟨v9, hv9⟩ := cell?_setCell_some (p := ⟨g, i, none⟩) (x := .pointer (some ⟨q, 0, none⟩)) b0
  clear h hi hj
  go_enter Try.func81, Try.ntmps81
  go_upto_region 0 with (fail)
  --<swap
  refine wp_region_tail [13, 15] (fun wx => wx.cell? ⟨g, i, none⟩ = some (.pointer (some ⟨p, 0, none⟩)) ∧ wx.cell? ⟨g, j, none⟩ = some (.pointer (some ⟨q, 0, none⟩))) (by kernel_rfl) (⟨a0, b0⟩) ?_
  intro hHeld
  refine wpAnyT_pure (i := 0) (v := ?_) rfl (by kernel_rfl) (by kernel_rfl) (by kernel_rfl) (fun _ _ _ h => h) (.inl ⟨by kernel_rfl, ?_⟩) (fun _ => hHeld) ?_ (by decide)
  rotate_left
  · intro w9; go_simp; try with_reducible rfl
  try simp only [Act.put, List.getElem_toArray, List.getElem_cons_succ, List.getElem_cons_zero, List.setIfInBounds_toArray, List.set_cons_zero, List.set_cons_succ]
  refine wpAnyT_pure (i := 1) (v := ?_) rfl (by kernel_rfl) (by kernel_rfl) (by kernel_rfl) (fun _ _ _ h => h) (.inl ⟨by kernel_rfl, ?_⟩) (fun _ => hHeld) ?_ (by decide)
  rotate_left
  · intro w9; go_simp; try with_reducible rfl
  try simp only [Act.put, List.getElem_toArray, List.getElem_cons_succ, List.getElem_cons_zero, List.setIfInBounds_toArray, List.set_cons_zero, List.set_cons_succ]
  refine wpAnyT_pure (i := 2) (v := ?_) rfl (by kernel_rfl) (by kernel_rfl) (by kernel_rfl) (fun _ _ _ h => h) (.inl ⟨by kernel_rfl, ?_⟩) (fun _ => hHeld) ?_ (by decide)
  rotate_left
  · intro w9; go_simp; try with_reducible rfl
  try simp only [Act.put, List.getElem_toArray, List.getElem_cons_succ, List.getElem_cons_zero, List.setIfInBounds_toArray, List.set_cons_zero, List.set_cons_succ]
  refine wpAnyT_pure (i := 3) (v := ?_) rfl (by kernel_rfl) (by kernel_rfl) (by kernel_rfl) (fun _ _ _ h => h) (.inl ⟨by kernel_rfl, ?_⟩) (fun _ => hHeld) ?_ (by decide)
  rotate_left
  · intro w9; go_simp; try with_reducible rfl
  try simp only [Act.put, List.getElem_toArray, List.getElem_cons_succ, List.getElem_cons_zero, List.setIfInBounds_toArray, List.set_cons_zero, List.set_cons_succ]
  refine wpAnyT_pure (i := 4) (v := ?_) rfl (by kernel_rfl) (by kernel_rfl) (by kernel_rfl) (fun _ _ _ h => h) (.inl ⟨by kernel_rfl, ?_⟩) (fun _ => hHeld) ?_ (by decide)
  rotate_left
  · intro w9; go_simp; try with_reducible rfl
  try simp only [Act.put, List.getElem_toArray, List.getElem_cons_succ, List.getElem_cons_zero, List.setIfInBounds_toArray, List.set_cons_zero, List.set_cons_succ]
  refine wpAnyT_pure (i := 5) (v := ?_) rfl (by kernel_rfl) (by kernel_rfl) (by kernel_rfl) (fun _ _ _ h => h) (.inl ⟨by kernel_rfl, ?_⟩) (fun _ => hHeld) ?_ (by decide)
  rotate_left
  · intro w9; go_simp; try with_reducible rfl
  try simp only [Act.put, List.getElem_toArray, List.getElem_cons_succ, List.getElem_cons_zero, List.setIfInBounds_toArray, List.set_cons_zero, List.set_cons_succ]
  refine wpAnyT_pure (i := 6) (v := ?_) rfl (by kernel_rfl) (by kernel_rfl) (by kernel_rfl) (fun _ _ _ h => h) (.inl ⟨by kernel_rfl, ?_⟩) (fun _ => hHeld) ?_ (by decide)
  rotate_left
  · intro w9; go_simp; try with_reducible rfl
  try simp only [Act.put, List.getElem_toArray, List.getElem_cons_succ, List.getElem_cons_zero, List.setIfInBounds_toArray, List.set_cons_zero, List.set_cons_succ]
  refine wpAnyT_pure (i := 8) (v := ?_) rfl (by kernel_rfl) (by kernel_rfl) (by kernel_rfl) (fun _ _ _ h => h) (.inl ⟨by kernel_rfl, ?_⟩) (fun _ => hHeld) ?_ (by decide)
  rotate_left
  · intro w9; go_simp; try with_reducible rfl
  try simp only [Act.put, List.getElem_toArray, List.getElem_cons_succ, List.getElem_cons_zero, List.setIfInBounds_toArray, List.set_cons_zero, List.set_cons_succ]
  refine wpAnyT_pure (i := 9) (v := ?_) rfl (by kernel_rfl) (by kernel_rfl) (by kernel_rfl) (fun _ _ _ h => h) (.inl ⟨by kernel_rfl, ?_⟩) (fun _ => hHeld) ?_ (by decide)
  rotate_left
  · intro w9; go_simp; try with_reducible rfl
  try simp only [Act.put, List.getElem_toArray, List.getElem_cons_succ, List.getElem_cons_zero, List.setIfInBounds_toArray, List.set_cons_zero, List.set_cons_succ]
  refine wpAnyT_pure (i := 10) (v := ?_) rfl (by kernel_rfl) (by kernel_rfl) (by kernel_rfl) (fun _ _ _ h => h) (.inl ⟨by kernel_rfl, ?_⟩) (fun _ => hHeld) ?_ (by decide)
  rotate_left
  · intro w9; go_simp; try with_reducible rfl
  try simp only [Act.put, List.getElem_toArray, List.getElem_cons_succ, List.getElem_cons_zero, List.setIfInBounds_toArray, List.set_cons_zero, List.set_cons_succ]
  refine wpAnyT_take (i := 7) [12, 13, 14, 15] (v := ?_) rfl (by kernel_rfl) (by kernel_rfl) (by kernel_rfl) (by kernel_rfl) (fun _ _ _ h => h) (.inl ⟨by kernel_rfl, ?_⟩) hHeld ?_
  rotate_left
  · intro w9 hS9; (try dsimp only at hS9); obtain ⟨q1, q2⟩ := hS9; go_simp; try with_reducible rfl
  try simp only [Act.put, List.getElem_toArray, List.getElem_cons_succ, List.getElem_cons_zero, List.setIfInBounds_toArray, List.set_cons_zero, List.set_cons_succ]
  refine wpAnyT_take (i := 11) [12, 13, 14, 15] (v := ?_) rfl (by kernel_rfl) (by kernel_rfl) (by kernel_rfl) (by kernel_rfl) (fun _ _ _ h => h) (.inl ⟨by kernel_rfl, ?_⟩) hHeld ?_
  rotate_left
  · intro w9 hS9; (try dsimp only at hS9); obtain ⟨q1, q2⟩ := hS9; go_simp; try with_reducible rfl
  try simp only [Act.put, List.getElem_toArray, List.getElem_cons_succ, List.getElem_cons_zero, List.setIfInBounds_toArray, List.set_cons_zero, List.set_cons_succ]
  refine wpAnyT_pure (i := 12) (v := ?_) rfl (by kernel_rfl) (by kernel_rfl) (by kernel_rfl) (fun _ _ _ h => h) (.inl ⟨by kernel_rfl, ?_⟩) (fun _ => hHeld) ?_ (by decide)
  rotate_left
  · intro w9; go_simp; try with_reducible rfl
  try simp only [Act.put, List.getElem_toArray, List.getElem_cons_succ, List.getElem_cons_zero, List.setIfInBounds_toArray, List.set_cons_zero, List.set_cons_succ]
  refine wpAnyT_next (i := 13) (by kernel_rfl) rfl ?_
  intro K hK
  go_simp
  refine hK.out _ _ (fun h => absurd ((by kernel_rfl : false = _).trans h) Bool.false_ne_true) ?_
  clear hK K
  refine wpAnyT_pure (i := 14) (v := ?_) rfl (by kernel_rfl) (by kernel_rfl) (by kernel_rfl) (fun _ _ _ h => h) (.inl ⟨by kernel_rfl, ?_⟩) (fun h => absurd ((by kernel_rfl : false = _).trans h) Bool.false_ne_true) ?_ (by decide)
  rotate_left
  · intro w9; go_simp; try with_reducible rfl
  try simp only [Act.put, List.getElem_toArray, List.getElem_cons_succ, List.getElem_cons_zero, List.setIfInBounds_toArray, List.set_cons_zero, List.set_cons_succ]
  refine wpAnyT_next (i := 15) (by kernel_rfl) rfl ?_
  intro K hK
  go_simp
  refine hK.out _ _ (fun h => absurd ((by kernel_rfl : false = _).trans h) Bool.false_ne_true) ?_
  clear hK K
  refine wpAnyT_done (by kernel_rfl) ?_ _
  --swap>
  go_wp2
  go_end0
  exact ⟨rfl, HFIN.out _ rfl⟩
end Go.Proofs.Ytfggcmbainhglaa
namespace Go.Proofs.Ytfggcmbainhglaa
open Go.RowKit

/-- two places of a row: the old block, or a new one -/
def Anew (w : World) (A1 A : Option Addr) : Prop := blkOf A1 = blkOf A ∨ ∃ k, w.heap.size ≤ k ∧ blkOf A1 = some k
theorem Anew.refl (w : World) (A : Option Addr) : Anew w A A := .inl rfl
theorem Anew.trans {w w1 : World} {A A1 A2 : Option Addr} (h : Anew w A1 A) (h2 : Anew w1 A2 A1) (hs : w.heap.size ≤ w1.heap.size) : Anew w A2 A := by
  rcases h2 with e | ⟨k, h3, e⟩
  · unfold Anew; rw [e]; exact h
  · exact .inr ⟨k, by omega, e⟩
theorem Anew.of_grew {w w' : World} {A A' : Option Addr} (h : Grew w w' A A') : Anew w A' A := h.blk
theorem Anew.below {w w1 : World} {A A1 : Option Addr} (h : Anew w1 A1 A) (hs : w.heap.size ≤ w1.heap.size) : Anew w A1 A := h.imp id fun ⟨k, a, b⟩ => ⟨k, by omega, b⟩
theorem Anew.inf {w : World} {A A1 : Option Addr} (h : Anew w A1 A) {k : Nat} (hk : blkOf A1 = some k) : blkOf A = some k ∨ w.heap.size ≤ k := by
  rcases h with e | ⟨g, h1, e⟩
  · exact .inl (e ▸ hk)
  · rw [e] at hk; cases hk; exact .inr h1
/-- the row lies where the other one lay, or in a new block, or nowhere -/
def Newer (w : World) (A1 A : Option Addr) : Prop := ∀ k, blkOf A1 = some k → blkOf A = some k ∨ w.heap.size ≤ k
theorem Newer.refl (w : World) (A : Option Addr) : Newer w A A := fun _ h => .inl h
theorem Newer.of {w : World} {A1 A : Option Addr} (h : Anew w A1 A) : Newer w A1 A := fun _ hk => h.inf hk
theorem Newer.trans {w w1 : World} {A A1 A2 : Option Addr} (h : Newer w A1 A) (h2 : Newer w1 A2 A1) (hs : w.heap.size ≤ w1.heap.size) : Newer w A2 A := fun k hk => (h2 k hk).elim (h k) (fun h => .inr (by omega))
theorem Newer.grew {w w' : World} {A A' : Option Addr} (h : Grew w w' A A') : Newer w A' A := Newer.of (Anew.of_grew h)
theorem Stays.grown {w w' : World} {r : Nat} (hg : w.grownBy w' (some r)) : Stays w w' (fun k => k = r) := ⟨hg.os, hg.tape, hg.output, hg.size, fun k hk hn => hg.block k hk (fun e => hn (by cases e; rfl))⟩
end Go.Proofs.Ytfggcmbainhglaa
namespace Go.Proofs.Ytfggcmbainhglaa
open Go.RowKit
set_option linter.unusedSimpArgs false

theorem elemTree : ElemT Try.prog 46 47 1 8 := ElemT.of Try.underlying46 (z := .pointer none) (by kernel_rfl) rfl (by decide)
theorem Own.front1 {w : World} {base e n c : Nat} {A : Option Addr} {xs : List Value} (h : Own w base e 1 A n c xs) {k : Nat} (hk : k ≤ n) : Own w base e 1 A k c (xs.take k) := by
  have hl := h.len
  refine ⟨by rw [List.length_take]; omega, ?_⟩
  rcases h.2 with ⟨h1, h2⟩ | ⟨g, cap, cur, h1, h2, h3, h4, h5, h6, h7⟩
  · simp only [Value.slice.injEq] at h1
    exact .inl ⟨by rw [h1.1, h1.2.2, show k = 0 by omega], by omega⟩
  · simp only [Value.slice.injEq] at h1
    exact .inr ⟨g, cap, cur, by rw [h1.1, h1.2.2], h2, h3, by omega, h5, h6, by rw [← h7, List.take_take]; congr 1; omega⟩
/-- a forest in memory -/
structure FAt (w : World) (B Fb : Nat) (A : Option Addr) (c : Nat) (fs : List (Nat × hl.T)) : Prop where
  lo : B ≤ Fb
  box : BlkA w Fb 46 #[.slice A fs.length c]
  rt : RowT w B A c fs
theorem treeNeBox : 50 ≠ 46 := by decide
theorem rowNeBox : 47 ≠ 46 := by decide
theorem FAt.next {w w' : World} {B Fb : Nat} {A : Option Addr} {c : Nat} {fs : List (Nat × hl.T)} (h : FAt w B Fb A c fs) (hb : Below w.heap.size w w') : FAt w' B Fb A c fs := ⟨h.lo, h.box.next hb, h.rt.next hb⟩
theorem FAt.far {w : World} {B Fb : Nat} {A : Option Addr} {c : Nat} {fs : List (Nat × hl.T)} (h : FAt w B Fb A c fs) : blkOf A ≠ some Fb := h.box.apart h.rt.row rowNeBox
def ho.ptr (Fb : Nat) : Value := .pointer (some ⟨Fb, 0, none⟩)
def ho.any (p : Nat) : Value := .iface 47 (.pointer (some ⟨p, 0, none⟩))
theorem assert_tree (p : Nat) (W : World) : (Instr.typeAssert (.iface 47 (.pointer (some ⟨p, 0, none⟩))) 20 47 false).run Try.prog W = .ok (.pointer (some ⟨p, 0, none⟩)) W := by kernel_rfl
set_option maxRecDepth 100000 in
set_option maxHeartbeats 1000000 in
theorem forest_Push (B Fb : Nat) (A : Option Addr) (c : Nat) (fs : List (Nat × hl.T)) (p : Nat) (t : hl.T) (w : World) (h : FAt w B Fb A c fs) (ht : TAt w p t) (hn : fs.length ≤ 1000) :
    Calls Try.prog 84 #[.pointer (some ⟨Fb, 0, none⟩), .iface 47 (.pointer (some ⟨p, 0, none⟩))] w fun e w' => e = .returned (.tuple #[]) ∧ ∃ A' c', FAt w' B Fb A' c' (fs ++ [(p, t)]) ∧ Stays w w' (fun k => k = Fb ∨ blkOf A = some k) ∧ ∀ k, blkOf A' = some k → blkOf A = some k ∨ w.heap.size ≤ k := by
  have H := Lib.hid h
  have HT := Lib.hid ht
  have f0 := h.box.get 0
  have lF := h.box.lt
  have hB := h.lo
  simp only [List.getElem?_toArray, List.getElem?_cons_zero] at f0
  have HSS : Hid (∀ wx, Below w.heap.size w wx → wx.cell? ⟨Fb, 0, none⟩ = some (.slice A fs.length c)) := Lib.hid (fun wx hb => (H.out.box.next hb).get 0)
  have hta := assert_tree p
  clear h ht
  go_enter Try.func84, Try.ntmps84
  go_upto_region 0 with (fail)
  --<push
  refine wp_region_tail [7, 9] (fun wx => wx.cell? ⟨Fb, 0, none⟩ = some (.slice A fs.length c)) (by kernel_rfl) (f0) ?_
  intro hHeld
  refine wpAnyT_pure (i := 0) (v := ?_) rfl (by kernel_rfl) (by kernel_rfl) (by kernel_rfl) (fun _ _ _ h => h) (.inl ⟨by kernel_rfl, ?_⟩) (fun _ => hHeld) ?_ (by decide)
  rotate_left
  · intro w9; go_simp; try with_reducible rfl
  try simp only [Act.put, List.getElem_toArray, List.getElem_cons_succ, List.getElem_cons_zero, List.setIfInBounds_toArray, List.set_cons_zero, List.set_cons_succ]
  refine wpAnyT_pure (i := 1) (v := ?_) rfl (by kernel_rfl) (by kernel_rfl) (by kernel_rfl) (fun _ _ _ h => h) (.inl ⟨by kernel_rfl, ?_⟩) (fun _ => hHeld) ?_ (by decide)
  rotate_left
  · intro w9; go_simp; try with_reducible rfl
  try simp only [Act.put, List.getElem_toArray, List.getElem_cons_succ, List.getElem_cons_zero, List.setIfInBounds_toArray, List.set_cons_zero, List.set_cons_succ]
  refine wpAnyT_pure (i := 2) (v := ?_) rfl (by kernel_rfl) (by kernel_rfl) (by kernel_rfl) (fun _ _ _ h => h) (.inl ⟨by kernel_rfl, ?_⟩) (fun _ => hHeld) ?_ (by decide)
  rotate_left
  · intro w9; go_simp; try with_reducible rfl
  try simp only [Act.put, List.getElem_toArray, List.getElem_cons_succ, List.getElem_cons_zero, List.setIfInBounds_toArray, List.set_cons_zero, List.set_cons_succ]
  refine wpAnyT_pure (i := 4) (v := ?_) rfl (by kernel_rfl) (by kernel_rfl) (by kernel_rfl) (fun _ _ _ h => h) (.inl ⟨by kernel_rfl, ?_⟩) (fun _ => hHeld) ?_ (by decide)
  rotate_left
  · intro w9; go_simp; try with_reducible rfl
  try simp only [Act.put, List.getElem_toArray, List.getElem_cons_succ, List.getElem_cons_zero, List.setIfInBounds_toArray, List.set_cons_zero, List.set_cons_succ]
  refine wpAnyT_pure (i := 5) (v := ?_) rfl (by kernel_rfl) (by kernel_rfl) (by kernel_rfl) (fun _ _ _ h => h) (.inl ⟨by kernel_rfl, ?_⟩) (fun _ => hHeld) ?_ (by decide)
  rotate_left
  · intro w9; go_simp; try with_reducible rfl
  try simp only [Act.put, List.getElem_toArray, List.getElem_cons_succ, List.getElem_cons_zero, List.setIfInBounds_toArray, List.set_cons_zero, List.set_cons_succ]
  refine wpAnyT_take (i := 3) [7, 8, 9] (v := ?_) rfl (by kernel_rfl) (by kernel_rfl) (by kernel_rfl) (by kernel_rfl) (fun _ _ _ h => h) (.inl ⟨by kernel_rfl, ?_⟩) hHeld ?_
  rotate_left
  · intro w9 hS9; (try dsimp only at hS9); go_simp; try with_reducible rfl
  try simp only [Act.put, List.getElem_toArray, List.getElem_cons_succ, List.getElem_cons_zero, List.setIfInBounds_toArray, List.set_cons_zero, List.set_cons_succ]
  refine wpAnyT_next (i := 6) (by kernel_rfl) rfl ?_
  intro K hK
  go_simp
  refine hK.out _ _ (fun _ => (HSS.out _ (by exact (by repeat (first | (with_reducible exact Below.refl _ _) | (with_reducible assumption) | (with_reducible refine bset ?_ ?_ _) | (with_reducible refine balloc ?_ _) | (with_reducible refine Below.drew ?_) | (with_reducible refine bdrewN ?_ _) | (with_reducible refine bnext ?_ (by with_reducible assumption)) | exact Nat.le_refl _ | (simp; done) | omega | (simp; omega)))))) ?_
  clear hK K
  try simp only [Act.put, List.getElem_toArray, List.getElem_cons_succ, List.getElem_cons_zero, List.setIfInBounds_toArray, List.set_cons_zero, List.set_cons_succ]
  refine wpAnyT_next (i := 7) (by kernel_rfl) rfl ?_
  intro K hK
  refine step_app _ (by rfl) _ _ _ (by rfl) elemTree B A fs.length c _ (by rfl) (H.out.rt.row.next (by exact (by repeat (first | (with_reducible exact Below.refl _ _) | (with_reducible assumption) | (with_reducible refine bset ?_ ?_ _) | (with_reducible refine balloc ?_ _) | (with_reducible refine Below.drew ?_) | (with_reducible refine bdrewN ?_ _) | (with_reducible refine bnext ?_ (by with_reducible assumption)) | exact Nat.le_refl _ | (simp; done) | omega | (simp; omega))))) (some ⟨w.heap.size, 0, none⟩) 1 1 [.pointer (some ⟨p, 0, none⟩)] (by rfl) (by rfl) (Cells.newAt _ _ _ (by rfl)) (by simp [Value.oneCell']) (by omega) (by unfold maxLen; omega) (Nat.le_trans (Nat.le_trans hB (Nat.le_of_lt lF)) (by simp)) ?_
  intro A6 c6 w6 hO6 hg6
  have hst6 : Stays w w6 (fun q => blkOf A = some q) := (Stays.of_below (by exact (by repeat (first | (with_reducible exact Below.refl _ _) | (with_reducible assumption) | (with_reducible refine bset ?_ ?_ _) | (with_reducible refine balloc ?_ _) | (with_reducible refine Below.drew ?_) | (with_reducible refine bdrewN ?_ _) | (with_reducible refine bnext ?_ (by with_reducible assumption)) | exact Nat.le_refl _ | (simp; done) | omega | (simp; omega)))) _).comp (Stays.grew hg6)
  have hO6 := Lib.hid hO6
  have HNW : Hid (∀ k, blkOf A6 = some k → blkOf A = some k ∨ w.heap.size ≤ k) := Lib.hid (fun k hk => (Newer.grew hg6 k hk).imp (fun e => e) (fun e => Nat.le_trans (by simp) e))
  have hb6 := H.out.box.stays hst6 H.out.far
  have f6 := hb6.frozen 0
  have l6 := hb6.lt
  have g6 := hb6.get 0
  have HFIN : Hid (FAt (w6.setCell ⟨Fb, 0, none⟩ (.slice A6 (fs.length + 1) c6)) B Fb A6 c6 (fs ++ [(p, t)]) ∧ Stays w (w6.setCell ⟨Fb, 0, none⟩ (.slice A6 (fs.length + 1) c6)) (fun k => k = Fb ∨ blkOf A = some k)) := Lib.hid (by
    have hs6 : Stays w (w6.setCell ⟨Fb, 0, none⟩ (.slice A6 (fs.length + 1) c6)) (fun k => k = Fb ∨ blkOf A = some k) := (hst6.mono fun _ _ e => .inr e).comp ((Stays.set _ _ _ _).mono fun _ _ e => .inl e)
    have hln : (fs ++ [(p, t)]).length = fs.length + 1 := by rw [List.length_append]; rfl
    refine ⟨⟨hB, ?_, ⟨?_, fun x hx => ?_⟩⟩, hs6⟩
    · rw [hln]
      simpa using hb6.set 0 (.slice A6 (fs.length + 1) c6)
    · rw [hln, List.map_append]
      exact hO6.out.setCell (hb6.apart hO6.out rowNeBox) _
    · have key : ∀ k cs, BlkA w k 50 cs → ¬ (k = Fb ∨ blkOf A = some k) := fun k cs hb e => by
        rcases e with e | e
        · exact hb.two H.out.box treeNeBox e
        · exact hb.apart H.out.rt.row treeNeRow e
      rcases List.mem_append.1 hx with hx | hx
      · exact (H.out.rt.tr x hx).stays hs6 key
      · rw [List.mem_singleton] at hx
        subst hx
        exact HT.out.stays hs6 key)
  clear hg6 hst6 hb6
  refine hK.out _ _ (fun h => absurd ((by kernel_rfl : false = _).trans h) Bool.false_ne_true) ?_
  clear hK K
  try simp only [Act.put, List.getElem_toArray, List.getElem_cons_succ, List.getElem_cons_zero, List.setIfInBounds_toArray, List.set_cons_zero, List.set_cons_succ]
  refine wpAnyT_pure (i := 8) (v := ?_) rfl (by kernel_rfl) (by kernel_rfl) (by kernel_rfl) (fun _ _ _ h => h) (.inl ⟨by kernel_rfl, ?_⟩) (fun h => absurd ((by kernel_rfl : false = _).trans h) Bool.false_ne_true) ?_ (by decide)
  rotate_left
  · intro w9; go_simp; try with_reducible rfl
  try simp only [Act.put, List.getElem_toArray, List.getElem_cons_succ, List.getElem_cons_zero, List.setIfInBounds_toArray, List.set_cons_zero, List.set_cons_succ]
  refine wpAnyT_next (i := 9) (by kernel_rfl) rfl ?_
  intro K hK
  go_simp
  refine hK.out _ _ (fun h => absurd ((by kernel_rfl : false = _).trans h) Bool.false_ne_true) ?_
  clear hK K
  refine wpAnyT_done (by kernel_rfl) ?_ _
  --push>
  go_wp2
  go_end0
  refine ⟨rfl, A6, c6, ?_, ?_, HNW.out⟩
  · exact HFIN.out.1
  · exact HFIN.out.2
set_option maxRecDepth 100000 in
set_option maxHeartbeats 1000000 in
theorem forest_Pop (B Fb : Nat) (A : Option Addr) (c : Nat) (fs : List (Nat × hl.T)) (w : World) (h : FAt w B Fb A c fs) (h0 : 0 < fs.length) :
    Calls Try.prog 83 #[.pointer (some ⟨Fb, 0, none⟩)] w fun e w' => e = .returned (.iface 47 (.pointer (some ⟨(fs.getD (fs.length - 1) ho.ez).1, 0, none⟩))) ∧ FAt w' B Fb A c (fs.take (fs.length - 1)) ∧ Stays w w' (fun k => k = Fb) := by
  have H := Lib.hid h
  obtain ⟨g, rfl, _, hg, a0⟩ := h.rt.at_ (show fs.length - 1 < fs.length by omega)
  have f0 := h.box.get 0
  have ff := h.box.frozen 0
  have lF := h.box.lt
  simp only [List.getElem?_toArray, List.getElem?_cons_zero] at f0
  have hcap := h.rt.row.cap
  have HFIN : Hid (∀ n : Nat, n = fs.length - 1 → FAt (w.setCell ⟨Fb, 0, none⟩ (.slice (some ⟨g, 0, none⟩) n c)) B Fb (some ⟨g, 0, none⟩) c (fs.take (fs.length - 1)) ∧ Stays w (w.setCell ⟨Fb, 0, none⟩ (.slice (some ⟨g, 0, none⟩) n c)) (fun k => k = Fb)) := Lib.hid (fun n hn => by
    subst hn
    have hs := Stays.set w Fb 0 (.slice (some ⟨g, 0, none⟩) (fs.length - 1) c)
    have hln : (fs.take (fs.length - 1)).length = fs.length - 1 := by rw [List.length_take]; omega
    refine ⟨⟨H.out.lo, ?_, ⟨?_, fun x hx => (H.out.rt.tr x (List.mem_of_mem_take hx)).stays hs (fun k cs hb e => hb.two H.out.box treeNeBox e)⟩⟩, hs⟩
    · rw [hln]
      simpa using H.out.box.set 0 (.slice (some ⟨g, 0, none⟩) (fs.length - 1) c)
    · rw [hln, List.map_take]
      exact (H.out.rt.row.front1 (by omega)).stays hs (fun k hk e => H.out.far (e ▸ hk)))
  generalize (fs.getD (fs.length - 1) ho.ez).1 = p at *
  obtain ⟨m, hm⟩ : ∃ m, fs.length = m + 1 := ⟨fs.length - 1, by omega⟩
  unfold maxLen at hcap
  rw [hm] at a0 f0 hcap HFIN h0
  simp only [Nat.add_sub_cancel] at a0 HFIN
  rw [hm]
  simp only [Nat.add_sub_cancel]
  have hw1 : IntKind.i64.wrap (((m + 1 : Nat) : Int) - 1) = (m : Int) := by rw [show ((m + 1 : Nat) : Int) - 1 = (m : Int) by omega]; exact IntWalk.i64_in _ (by omega)
  have hwm : (m : Int) < ((m + 1 : Nat) : Int) := by omega
  clear h hm
  go_enter Try.func83, Try.ntmps83
  go_wp2
  go_ret
  exact ⟨rfl, HFIN.out _ rfl⟩
end Go.Proofs.Ytfggcmbainhglaa
namespace Go.Proofs.Ytfggcmbainhglaa
open Go.RowKit
set_option linter.unusedSimpArgs false

theorem meth_Push (p : Option Addr) (w : World) : (method 224 52 (.pointer p) "Push").run Try.prog w = .ok (84, .pointer p) w := by kernel_rfl
theorem ho.recv_ (Fb : Nat) (s : String) (w : World) : (receiverAt 52 (.val (.pointer (some ⟨Fb, 0, none⟩))) false (some s)).run Try.prog w = (loadVar 46 ⟨Fb, 0, none⟩).run Try.prog w := by kernel_rfl
theorem ho.load_ (Fb : Nat) (v : Value) (w : World) (h : w.cell? ⟨Fb, 0, none⟩ = some v) : (loadVar 46 ⟨Fb, 0, none⟩).run Try.prog w = .ok v w := by
  have e : (loadVar 46 ⟨Fb, 0, none⟩).run Try.prog w = (load ⟨Fb, 0, none⟩).run Try.prog w := by kernel_rfl
  rw [e]
  simp [go_sem, h]
theorem meth_Less (Fb : Nat) (v : Value) (w : World) (h : w.cell? ⟨Fb, 0, none⟩ = some v) : (method 224 52 (.pointer (some ⟨Fb, 0, none⟩)) "Less").run Try.prog w = .ok (80, v) w := by
  have e : (method 224 52 (.pointer (some ⟨Fb, 0, none⟩)) "Less").run Try.prog w = (receiverAt 52 (.val (.pointer (some ⟨Fb, 0, none⟩))) false (some (("Less".splitOn ".").getLastD "Less")) >>= fun x => (pure (80, x) : Sem (FuncId × Value))).run Try.prog w := by kernel_rfl
  rw [e, Sem.run_bind, ho.recv_, ho.load_ Fb v w h]
  rfl
theorem meth_Len (Fb : Nat) (v : Value) (w : World) (h : w.cell? ⟨Fb, 0, none⟩ = some v) : (method 224 52 (.pointer (some ⟨Fb, 0, none⟩)) "Len").run Try.prog w = .ok (79, v) w := by
  have e : (method 224 52 (.pointer (some ⟨Fb, 0, none⟩)) "Len").run Try.prog w = (receiverAt 52 (.val (.pointer (some ⟨Fb, 0, none⟩))) false (some (("Len".splitOn ".").getLastD "Len")) >>= fun x => (pure (79, x) : Sem (FuncId × Value))).run Try.prog w := by kernel_rfl
  rw [e, Sem.run_bind, ho.recv_, ho.load_ Fb v w h]
  rfl
theorem meth_Swap (Fb : Nat) (v : Value) (w : World) (h : w.cell? ⟨Fb, 0, none⟩ = some v) : (method 224 52 (.pointer (some ⟨Fb, 0, none⟩)) "Swap").run Try.prog w = .ok (81, v) w := by
  have e : (method 224 52 (.pointer (some ⟨Fb, 0, none⟩)) "Swap").run Try.prog w = (receiverAt 52 (.val (.pointer (some ⟨Fb, 0, none⟩))) false (some (("Swap".splitOn ".").getLastD "Swap")) >>= fun x => (pure (81, x) : Sem (FuncId × Value))).run Try.prog w := by kernel_rfl
  rw [e, Sem.run_bind, ho.recv_, ho.load_ Fb v w h]
  rfl
theorem meth_Pop (p : Option Addr) (w : World) : (method 224 52 (.pointer p) "Pop").run Try.prog w = .ok (83, .pointer p) w := by kernel_rfl
def ho.IsB (e : Ending) : Prop := ∃ b, e = .returned (.bool b)
def ho.If (Fb : Nat) : Value := .iface 52 (.pointer (some ⟨Fb, 0, none⟩))
theorem FAt.swapped {w w' : World} {B Fb : Nat} {A : Option Addr} {c : Nat} {fs gs : List (Nat × hl.T)} (h : FAt w B Fb A c fs) (hr : RowT w' B A c gs) (hl : gs.length = fs.length) (hs : Stays w w' (fun k => blkOf A = some k)) : FAt w' B Fb A c gs :=
  ⟨h.lo, by rw [hl]; exact h.box.stays hs h.far, hr⟩
theorem ho.Low.perm {fs gs : List (Nat × hl.T)} (h : ho.Low fs) (hp : gs.Perm fs) : ho.Low gs := fun x hx => h x (hp.subset hx)
def ho.dn (fs : List (Nat × hl.T)) (n i : Nat) : List (Nat × hl.T) := hp.down ho.ek ho.ez fs n i
def ho.lt (fs : List (Nat × hl.T)) (i j : Nat) : Bool := decide (ho.ek (fs.getD i ho.ez) < ho.ek (fs.getD j ho.ez))
theorem ho.dn_stop {fs : List (Nat × hl.T)} {n i : Nat} (h : ¬ 2 * i + 1 < n) : ho.dn fs n i = fs := by
  unfold ho.dn
  rw [hp.down, dif_neg h]
theorem ho.dn_go {fs : List (Nat × hl.T)} {n i j : Nat} (h : 2 * i + 1 < n) (hj : j = if 2 * i + 2 < n ∧ ho.lt fs (2 * i + 2) (2 * i + 1) = true then 2 * i + 2 else 2 * i + 1) : ho.dn fs n i = if ho.lt fs j i = true then ho.dn (hp.swap ho.ez fs i j) n j else fs := by
  have e : hp.child ho.ek ho.ez fs n i = j := by
    rw [hj]
    unfold hp.child ho.lt hp.K
    simp only [decide_eq_true_eq]
  unfold ho.dn
  rw [hp.down, dif_pos h, e]
  unfold ho.lt hp.K
  simp only [decide_eq_true_eq]
set_option maxRecDepth 100000 in
set_option maxHeartbeats 1000000 in
theorem heap_down (B Fb : Nat) (A : Option Addr) (c : Nat) (fs : List (Nat × hl.T)) (i n : Nat) (w : World) (h : FAt w B Fb A c fs) (hn : n ≤ fs.length) (hlow : ho.Low fs) (hlen : fs.length ≤ 1000) (hi : i ≤ 1000) :
    Calls Try.prog 30 #[.iface 52 (.pointer (some ⟨Fb, 0, none⟩)), .int .i64 (i : Int), .int .i64 (n : Int)] w fun e w' => ho.IsB e ∧ FAt w' B Fb A c (ho.dn fs n i) ∧ Stays w w' (fun k => blkOf A = some k) := by
  have hmL := fun (wx : World) (hc : wx.cell? ⟨Fb, 0, none⟩ = some (.slice A fs.length c)) => meth_Less Fb _ wx hc
  have hmS := fun (wx : World) (hc : wx.cell? ⟨Fb, 0, none⟩ = some (.slice A fs.length c)) => meth_Swap Fb _ wx hc
  obtain ⟨N, hN⟩ : ∃ N, fs.length = N := ⟨_, rfl⟩
  obtain ⟨R, hR⟩ : ∃ R, ho.dn fs n i = R := ⟨_, rfl⟩
  have H0 : Hid (fs.length = N ∧ FAt w B Fb A c fs ∧ Stays w w (fun k => blkOf A = some k) ∧ ho.Low fs ∧ ho.dn fs n i = R) := Lib.hid ⟨hN, h, Stays.refl _ _, hlow, hR⟩
  rw [hN] at hn hlen hmL hmS
  rw [hR]
  clear h hlow hR hN
  go_enter Try.func30, Try.ntmps30
  go_wp2
  go_loopw [7] (fun s7 wr => ∃ (m : Nat) (gs : List (Nat × hl.T)), s7 = .int .i64 (m : Int) ∧ m ≤ 1000 ∧ Hid (gs.length = N ∧ FAt wr B Fb A c gs ∧ Stays w wr (fun k => blkOf A = some k) ∧ ho.Low gs ∧ ho.dn gs n m = R)) (fun s7 _ => n - (intOf s7).toNat)
  case atStart => exact ⟨i, fs, rfl, hi, H0⟩
  case round =>
    obtain ⟨m, gs, rfl, hm, HG⟩ := hrel
    rename World => wr
    obtain ⟨g1, g2, g3, g4, g5⟩ := HG.out
    obtain ⟨m2, hm2⟩ : ∃ m2 : Nat, m2 = 2 * m := ⟨_, rfl⟩
    obtain ⟨j1, hj1⟩ : ∃ j1 : Nat, j1 = 2 * m + 1 := ⟨_, rfl⟩
    obtain ⟨j2, hj2⟩ : ∃ j2 : Nat, j2 = 2 * m + 2 := ⟨_, rfl⟩
    have hw1 : IntKind.i64.wrap (2 * (m : Int)) = (m2 : Int) := by rw [show 2 * (m : Int) = (m2 : Int) by omega]; exact IntWalk.i64_in _ (by omega)
    have hw2 : IntKind.i64.wrap ((m2 : Int) + 1) = (j1 : Int) := by rw [show (m2 : Int) + 1 = (j1 : Int) by omega]; exact IntWalk.i64_in _ (by omega)
    have hw3 : IntKind.i64.wrap ((j1 : Int) + 1) = (j2 : Int) := by rw [show (j1 : Int) + 1 = (j2 : Int) by omega]; exact IntWalk.i64_in _ (by omega)
    have hj0 : ¬ (j1 : Int) < 0 := by omega
    have f0 := g2.box.get 0
    have l0 := g2.box.lt
    simp only [List.getElem?_toArray, List.getElem?_cons_zero, g1] at f0
    by_cases k1 : j1 < n
    · have q1 : decide ((n : Int) ≤ (j1 : Int)) = false := by simp; omega
      have q1' : decide (n ≤ j1) = false := by simp; omega
      have HJ := Lib.hid (And.intro hj1 hj2)
      have G1 := Lib.hid g1
      have G2 := Lib.hid g2
      have G3 := Lib.hid g3
      have G4 := Lib.hid g4
      have G5 := Lib.hid g5
      clear hm2 hj1 hj2 g1 g2 g3 g4 g5 HG H0
      go_upto_region 6 with (fail)
      go_cut [33] (fun s33 wx => ∃ b : Bool, s33 = .bool b ∧ Hid (b = true ↔ (j2 < n ∧ ho.lt gs j2 j1 = true)) ∧ Hid (Below wr.heap.size wr wx))
      case first =>
        by_cases k2 : j2 < n
        · have q2 : decide ((j2 : Int) < (n : Int)) = true := by simp; omega
          have k2' : (j2 : Int) < (n : Int) := by omega
          have HLS := Lib.hid (forest_Less B A c gs j2 j1 wr G2.out.rt (by rw [G1.out]; omega) (by rw [G1.out]; omega) G4.out)
          rw [G1.out] at HLS
          obtain ⟨b, hb⟩ : ∃ b, ho.lt gs j2 j1 = b := ⟨_, rfl⟩
          have HLB : Hid (decide (ho.ek (gs.getD j2 ho.ez) < ho.ek (gs.getD j1 ho.ez)) = b) := Lib.hid hb
          rw [HLB.out] at HLS
          have HJJ : Hid (b = true ↔ (j2 < n ∧ ho.lt gs j2 j1 = true)) := Lib.hid (by rw [hb]; simp [k2])
          clear hb HLB
          go_wp2_with (first
            | (go_at_call 80; ((with_reducible refine HLS.out.mono ?_); rintro e w4 ⟨rfl, hb4⟩; have HB4 := Lib.hid hb4; clear hb4))
            | fail)
          go_meet
          exact ⟨b, rfl, HJJ, HB4⟩
        · have q2 : decide ((j2 : Int) < (n : Int)) = false := by simp; omega
          have k2' : ¬ (j2 : Int) < (n : Int) := by omega
          have HJJ : Hid (false = true ↔ (j2 < n ∧ ho.lt gs j2 j1 = true)) := Lib.hid (by simp [k2])
          go_wp2
          go_meet
          exact ⟨false, rfl, HJJ, Lib.hid (bself _)⟩
      case rest =>
      obtain ⟨b3, rfl, HB3, HB4⟩ := hcut
      rename World => w4
      have HT : Hid (b3 = true → (if j2 < n ∧ ho.lt gs j2 j1 = true then j2 else j1) = j2) := Lib.hid (fun e => if_pos (HB3.out.1 e))
      have HF : Hid (b3 = false → (if j2 < n ∧ ho.lt gs j2 j1 = true then j2 else j1) = j1) := Lib.hid (fun e => if_neg (fun e2 => by have := HB3.out.2 e2; rw [e] at this; cases this))
      clear HB3
      go_upto_if 33 with (fail)
      go_cut [9] (fun s9 wx => ∃ j : Nat, s9 = .int .i64 (j : Int) ∧ Hid (j = if j2 < n ∧ ho.lt gs j2 j1 = true then j2 else j1) ∧ w4 = wx)
      case first =>
        cases b3 with
        | true =>
          go_wp2
          go_meet
          exact ⟨j2, rfl, Lib.hid (by first | exact (HT.out rfl).symm | exact (HT.out trivial).symm), rfl⟩
        | false =>
          go_wp2
          go_meet
          exact ⟨j1, rfl, Lib.hid (by first | exact (HF.out rfl).symm | exact (HF.out trivial).symm), rfl⟩
      case rest =>
        obtain ⟨j, rfl, HJJ, rfl⟩ := hcut
        have hjn : j < n := by have h1 := HJJ.out; split at h1 <;> omega
        have hjm : m < j := by have h1 := HJJ.out; have h2 := HJ.out; split at h1 <;> omega
        have HGO := Lib.hid (ho.dn_go (fs := gs) (n := n) (i := m) (j := j) (by have := HJ.out; omega) (by have h1 := HJJ.out; rw [HJ.out.1, HJ.out.2] at h1; exact h1))
        have H4 := Lib.hid (G2.out.next HB4.out)
        have HLS := Lib.hid (forest_Less B A c gs j m w4 H4.out.rt (by rw [G1.out]; omega) (by rw [G1.out]; omega) G4.out)
        rw [G1.out] at HLS
        have f4 := H4.out.box.get 0
        have l4 := H4.out.box.lt
        simp only [List.getElem?_toArray, List.getElem?_cons_zero, G1.out] at f4
        obtain ⟨b, hb⟩ : ∃ b, ho.lt gs j m = b := ⟨_, rfl⟩
        have HLB : Hid (decide (ho.ek (gs.getD j ho.ez) < ho.ek (gs.getD m ho.ez)) = b) := Lib.hid hb
        rw [HLB.out] at HLS
        rw [hb] at HGO
        clear hb HLB HJJ HJ
        cases b with
        | false =>
          have G5b : Hid (R = gs) := Lib.hid (by rw [← G5.out, HGO.out]; rfl)
          go_wp2_with (first
            | (go_at_call 80; ((with_reducible refine HLS.out.mono ?_); rintro e w5 ⟨rfl, hb5⟩; have HB5 := Lib.hid hb5; clear hb5))
            | fail)
          go_ret
          exact ⟨⟨_, rfl⟩, by rw [G5b.out]; exact H4.out.next HB5.out, G3.out.comp ((Stays.of_below HB4.out _).comp (Stays.of_below HB5.out _))⟩
        | true =>
          have HSW : Hid (∀ wx, Below w4.heap.size w4 wx → Calls Try.prog 81 #[.slice A N c, .int .i64 (m : Int), .int .i64 (j : Int)] wx fun e w' => e = .returned (.tuple #[]) ∧ RowT w' B A c (hp.swap ho.ez gs m j) ∧ Stays wx w' (fun k => blkOf A = some k)) := Lib.hid (fun wx hb => by
            have h9 := forest_Swap B A c gs m j wx (H4.out.next hb).rt (by rw [G1.out]; omega) (by rw [G1.out]; omega)
            rw [G1.out] at h9
            exact h9)
          go_wp2_with (first
            | (go_at_call 80; ((with_reducible refine HLS.out.mono ?_); rintro e w5 ⟨rfl, hb5⟩; have HB5 := Lib.hid hb5; have h5 := H4.out.next hb5; have f5 := h5.box.get 0; have l5 := h5.box.lt; (simp only [List.getElem?_toArray, List.getElem?_cons_zero, G1.out] at f5); have H5 := Lib.hid h5; clear hb5 h5))
            | (go_at_call 81; ((with_reducible refine (HSW.out _ HB5.out).mono ?_); rintro e w6 ⟨rfl, r6, s6⟩; have R6 := Lib.hid r6; have S6 := Lib.hid s6; clear r6 s6))
            | fail)
          go_roundw
          case rel =>
            have hpm := hp.swap_perm ho.ez (l := gs) (i := m) (j := j) (by rw [G1.out]; omega) (by rw [G1.out]; omega)
            refine ⟨j, hp.swap ho.ez gs m j, rfl, by omega, Lib.hid ⟨by rw [hp.swap_length]; exact G1.out, H5.out.swapped R6.out (hp.swap_length ..) S6.out, G3.out.comp ((Stays.of_below (bnext HB4.out HB5.out) _).comp S6.out), G4.out.perm hpm, ?_⟩⟩
            rw [← G5.out, HGO.out]
            rfl
          case measure => simp [intOf]; omega
    · have q1 : decide ((n : Int) ≤ (j1 : Int)) = true := by simp; omega
      have q1' : decide (n ≤ j1) = true := by simp; omega
      rw [ho.dn_stop (by omega)] at g5
      have G2 : Hid (FAt wr B Fb A c R ∧ Stays w wr (fun k => blkOf A = some k)) := Lib.hid ⟨g5 ▸ g2, g3⟩
      clear hm2 hj1 hj2 g1 g2 g3 g4 g5 HG H0
      go_wp2
      go_ret
      exact ⟨⟨_, rfl⟩, G2.out⟩
end Go.Proofs.Ytfggcmbainhglaa
