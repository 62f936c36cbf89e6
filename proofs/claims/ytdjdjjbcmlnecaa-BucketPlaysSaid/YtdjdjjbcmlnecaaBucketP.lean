/- The plain law of package bucket: what passes one by one passes by the history, too. No program in sight. No condition. -/
import Derived.Test.YtdjdjjbcmlnecaaTypes
namespace Go.Proofs.Ytdjdjjbcmlnecaa.bkt

def z : Packet := ⟨0, 0⟩
def at' (l : List Packet) (i : Nat) : Int := (l.getD i z).at_
def sz (l : List Packet) (i : Nat) : Int := (l.getD i z).size
def OkAt (l : List Packet) (i : Nat) : Prop := (0 ≤ at' l i ∧ at' l i ≤ 1048576) ∧ (1 ≤ sz l i ∧ sz l i ≤ 1500)
def lastOf (l : List Packet) (i : Nat) : Int := if i = 0 then 0 else at' l (i - 1)
def OldAt (l : List Packet) (i : Nat) : Prop := 0 < i ∧ at' l i < lastOf l i
def Valid (l : List Packet) (n : Nat) : Prop := ∀ i, i < n → OkAt l i ∧ ¬ OldAt l i
theorem Valid.snoc {l : List Packet} {n : Nat} (h : Valid l n) (h1 : OkAt l n) (h2 : ¬ OldAt l n) : Valid l (n + 1) := by
  intro i hi
  rcases Nat.lt_or_ge i n with h' | h'
  · exact h i h'
  · obtain rfl : i = n := by omega
    exact ⟨h1, h2⟩
theorem Valid.mono {l : List Packet} {n m : Nat} (h : Valid l n) (hm : m ≤ n) : Valid l m := fun i hi => h i (by omega)
theorem cases_of (l : List Packet) (n : Nat) : Valid l n ∨ (∃ i, i < n ∧ Valid l i ∧ ¬ OkAt l i) ∨ (∃ i, i < n ∧ Valid l i ∧ OkAt l i ∧ OldAt l i) := by
  induction n with
  | zero => exact .inl (fun i hi => absurd hi (Nat.not_lt_zero i))
  | succ n ih =>
    rcases ih with h | ⟨i, hi, h⟩ | ⟨i, hi, h⟩
    · by_cases h1 : OkAt l n
      · by_cases h2 : OldAt l n
        · exact .inr (.inr ⟨n, by omega, h, h1, h2⟩)
        · exact .inl (h.snoc h1 h2)
      · exact .inr (.inl ⟨n, by omega, h, h1⟩)
    · exact .inr (.inl ⟨i, by omega, h⟩)
    · exact .inr (.inr ⟨i, by omega, h⟩)
theorem Valid.at_mono {l : List Packet} {n : Nat} (h : Valid l n) : ∀ d i, i < n → d ≤ i → at' l (i - d) ≤ at' l i := by
  intro d
  induction d with
  | zero => intro i _ _; exact Int.le_refl _
  | succ d ih =>
    intro i hi hd
    have h1 := ih i hi (by omega)
    have h2 := (h (i - d) (by omega)).2
    unfold OldAt lastOf at h2
    rw [if_neg (by omega), show i - d - 1 = i - (d + 1) by omega] at h2
    omega

/-- what becomes of the list: all is well, or the first that is not -/
inductive Verdict (l : List Packet) (m : Nat) : Prop where
  | well (h : m = l.length)
  | range (h : m < l.length) (h1 : ¬ OkAt l m)
  | old (h : m < l.length) (h1 : OkAt l m) (h2 : OldAt l m)
theorem verdict_of (l : List Packet) : ∃ m, m ≤ l.length ∧ Valid l m ∧ Verdict l m := by
  rcases cases_of l l.length with h | ⟨i, hi, h, h1⟩ | ⟨i, hi, h, h1, h2⟩
  · exact ⟨_, Nat.le_refl _, h, .well rfl⟩
  · exact ⟨i, by omega, h, .range hi h1⟩
  · exact ⟨i, by omega, h, .old hi h1 h2⟩

section
variable (r b : Int) (l : List Packet)
def stepOf (c s : Int) : Int := if s ≤ c then c - s else c
def cr : Nat → Int
  | 0 => b
  | i + 1 => stepOf (if i = 0 then b else min b (cr i + r * (at' l i - lastOf l i))) (sz l i)
def credit (i : Nat) : Int := if i = 0 then b else min b (cr r b l i + r * (at' l i - lastOf l i))
theorem cr_succ (i : Nat) : cr r b l (i + 1) = stepOf (credit r b l i) (sz l i) := rfl
def pass (i : Nat) : Bool := decide (sz l i ≤ credit r b l i)
def passTo : Nat → List Bool
  | 0 => []
  | i + 1 => passTo i ++ [pass r b l i]
theorem passTo_length (k : Nat) : (passTo r b l k).length = k := by
  induction k with
  | zero => rfl
  | succ k ih => simp [passTo, ih]
theorem passTo_at : ∀ (k i : Nat), i < k → (passTo r b l k)[i]? = some (pass r b l i)
  | 0, i, h => absurd h (Nat.not_lt_zero i)
  | k + 1, i, h => by
    rw [passTo]
    rcases Nat.lt_or_ge i k with h' | h'
    · rw [List.getElem?_append_left (by rw [passTo_length]; exact h')]
      exact passTo_at k i h'
    · obtain rfl : i = k := by omega
      rw [List.getElem?_append_right (by rw [passTo_length]; exact Nat.le_refl _), passTo_length, Nat.sub_self]
      rfl
def wt (i : Nat) : Int := if pass r b l i = true then sz l i else 0
def psum (i : Nat) : Nat → Int
  | 0 => 0
  | d + 1 => psum i d + wt r b l (i - d - 1)
def ref (i : Nat) : Nat → Int
  | 0 => b
  | d + 1 => min (ref i d) (b + r * (at' l i - at' l (i - d - 1)) - psum r b l i (d + 1))

theorem cr_step (i : Nat) : cr r b l (i + 1) = credit r b l i - wt r b l i := by
  rw [cr_succ]
  unfold stepOf wt pass
  by_cases h : sz l i ≤ credit r b l i
  · simp [h]
  · simp [h]
theorem psum_succ (i : Nat) : ∀ d, psum r b l (i + 1) (d + 1) = psum r b l i d + wt r b l i := by
  intro d
  induction d with
  | zero => simp [psum]
  | succ d ih =>
    rw [psum, ih, psum, show i + 1 - (d + 1) - 1 = i - d - 1 by omega]
    omega
theorem ref_succ (i : Nat) : ∀ d, d ≤ i → ref r b l (i + 1) (d + 1) = min b (ref r b l i d + r * (at' l (i + 1) - at' l i) - wt r b l i) := by
  intro d
  induction d with
  | zero =>
    intro _
    have h0 : psum r b l (i + 1) (0 + 1) = wt r b l i := by simp [psum]
    have h1 : ref r b l (i + 1) (0 + 1) = min b (b + r * (at' l (i + 1) - at' l (i + 1 - 0 - 1)) - psum r b l (i + 1) (0 + 1)) := rfl
    rw [h1, h0, show i + 1 - 0 - 1 = i by omega]
    rfl
  | succ d ih =>
    intro hd
    rw [ref, ih (by omega), psum_succ, show i + 1 - (d + 1) - 1 = i - d - 1 by omega, ref]
    have e : r * (at' l (i + 1) - at' l (i - d - 1)) = r * (at' l (i + 1) - at' l i) + r * (at' l i - at' l (i - d - 1)) := by rw [← Int.mul_add]; congr 1; omega
    rw [e]
    omega
theorem ref_credit : ∀ i, ref r b l i i = credit r b l i := by
  intro i
  induction i with
  | zero => rfl
  | succ i ih =>
    have h1 : credit r b l (i + 1) = min b (cr r b l (i + 1) + r * (at' l (i + 1) - at' l i)) := by simp [credit, lastOf]
    rw [ref_succ r b l i i (Nat.le_refl _), ih, h1, cr_step]
    have e : credit r b l i + r * (at' l (i + 1) - at' l i) - wt r b l i = credit r b l i - wt r b l i + r * (at' l (i + 1) - at' l i) := by omega
    rw [e]

theorem mul_bd {r x y : Int} (h1 : 0 ≤ r) (h2 : r ≤ 1000) (h3 : y ≤ x) (h4 : 0 ≤ y) (h5 : x ≤ 1048576) : 0 ≤ r * (x - y) ∧ r * (x - y) ≤ 1048576000 := by
  refine ⟨Int.mul_nonneg h1 (by omega), ?_⟩
  have : r * (x - y) ≤ 1000 * 1048576 := Int.mul_le_mul h2 (by omega) (by omega) (by omega)
  omega
theorem delta_bd (h1 : 0 ≤ r) (h2 : r ≤ 1000) {n i : Nat} (hv : Valid l n) (hi : i < n) (h0 : 0 < i) : 0 ≤ r * (at' l i - lastOf l i) ∧ r * (at' l i - lastOf l i) ≤ 1048576000 := by
  have h := hv i hi
  have h' := hv (i - 1) (by omega)
  unfold OkAt OldAt at h h'
  have e : lastOf l i = at' l (i - 1) := by simp [lastOf, show i ≠ 0 by omega]
  rw [e] at h ⊢
  exact mul_bd h1 h2 (by omega) (by omega) (by omega)
theorem last_bd {n i : Nat} (hv : Valid l n) (hi : i < n) : 0 ≤ lastOf l i ∧ lastOf l i ≤ 1048576 := by
  unfold lastOf
  by_cases h : i = 0
  · rw [if_pos h]; omega
  · rw [if_neg h]
    exact (hv (i - 1) (by omega)).1.1
theorem cr_bd (h1 : 0 ≤ r) (h2 : r ≤ 1000) (h3 : 0 ≤ b) {n : Nat} (hv : Valid l n) : ∀ i, i ≤ n → 0 ≤ cr r b l i ∧ cr r b l i ≤ b := by
  intro i
  induction i with
  | zero => intro _; simp [cr, h3]
  | succ i ih =>
    intro hi
    have hc := ih (by omega)
    rw [cr_succ]
    unfold stepOf credit
    have hs := (hv i (by omega)).1
    unfold OkAt at hs
    by_cases h0 : i = 0
    · simp only [h0, if_true]; rw [h0] at hs; split <;> omega
    · have := delta_bd r l h1 h2 hv (by omega) (by omega : 0 < i)
      simp only [h0, if_false]
      split <;> omega
theorem psum_bd {n i : Nat} (hv : Valid l n) (hi : i ≤ n) : ∀ d, d ≤ i → 0 ≤ psum r b l i d ∧ psum r b l i d ≤ 1500 * d := by
  intro d
  induction d with
  | zero => intro _; simp [psum]
  | succ d ih =>
    intro hd
    have h := ih (by omega)
    have hs := (hv (i - d - 1) (by omega)).1
    unfold OkAt at hs
    rw [psum]
    unfold wt
    split <;> omega
theorem ref_bd (h1 : 0 ≤ r) (h2 : r ≤ 1000) {n i : Nat} (hv : Valid l n) (hi : i < n) : ∀ d, d ≤ i → b - 1500 * d ≤ ref r b l i d ∧ ref r b l i d ≤ b := by
  intro d
  induction d with
  | zero => intro _; simp [ref]
  | succ d ih =>
    intro hd
    have h := ih (by omega)
    have hp := psum_bd r b l hv (by omega : i ≤ n) (d + 1) hd
    have hm := hv.at_mono (d + 1) i hi hd
    have ho := (hv i hi).1
    have ho' := (hv (i - (d + 1)) (by omega)).1
    unfold OkAt at ho ho'
    have hb := mul_bd h1 h2 hm (by omega) (by omega)
    rw [show i - (d + 1) = i - d - 1 by omega] at hb
    rw [ref]
    omega
end
end Go.Proofs.Ytdjdjjbcmlnecaa.bkt
