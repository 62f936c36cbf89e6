/- The plain law of package glob: the items of a pattern, as they are read. No condition. -/
import Derived.Test.YtldoihbblgnpjaaGlobP
namespace Go.Proofs.Ytldoihbblgnpjaa.gl

/-- may a set go on here? -/
def plainB : List UInt8 → Bool
  | [] => false
  | b :: _ => b != 93 && b != 92
/-- one range of a set; and the rest -/
def rng : List UInt8 → (UInt8 × UInt8) × List UInt8
  | [] => ((0, 0), [])
  | a :: s => if s.head? = some 45 ∧ plainB s.tail = true then ((a, s.tail.headD 0), s.tail.tail) else ((a, a), s)
theorem rng_len {s : List UInt8} (h : plainB s = true) : (rng s).2.length < s.length := by
  cases s with
  | nil => cases h
  | cons a s =>
    show (if s.head? = some 45 ∧ plainB s.tail = true then ((a, s.tail.headD 0), s.tail.tail) else ((a, a), s)).2.length < _
    split
    · simp only [List.length_tail, List.length_cons]
      omega
    · simp
theorem rng_two (a b : UInt8) (t : List UInt8) (h : plainB (b :: t) = true) : rng (a :: 45 :: b :: t) = ((a, b), t) := by
  show (if (45 :: b :: t).head? = some 45 ∧ plainB (45 :: b :: t).tail = true then _ else _) = _
  rw [if_pos ⟨rfl, h⟩]
  rfl
theorem rng_one (a : UInt8) (s : List UInt8) (h : ¬ (s.head? = some 45 ∧ plainB s.tail = true)) : rng (a :: s) = ((a, a), s) := by
  show (if s.head? = some 45 ∧ plainB s.tail = true then _ else _) = _
  rw [if_neg h]
def ranges (acc : List (UInt8 × UInt8)) (s : List UInt8) : Option (List (UInt8 × UInt8) × List UInt8) :=
  if h : plainB s = true then (if (rng s).1.2 < (rng s).1.1 then none else ranges (acc ++ [(rng s).1]) (rng s).2) else some (acc, s)
termination_by s.length
decreasing_by exact rng_len h
theorem ranges_no {s : List UInt8} (acc) (h : plainB s = true) (hr : (rng s).1.2 < (rng s).1.1) : ranges acc s = none := by rw [ranges, dif_pos h, if_pos hr]
theorem ranges_on {s : List UInt8} (acc) (h : plainB s = true) (hr : ¬ (rng s).1.2 < (rng s).1.1) : ranges acc s = ranges (acc ++ [(rng s).1]) (rng s).2 := by conv => lhs; rw [ranges, dif_pos h, if_neg hr]
theorem ranges_end {s : List UInt8} (acc) (h : plainB s = false) : ranges acc s = some (acc, s) := by rw [ranges, dif_neg (by rw [h]; simp)]
theorem ranges_len : ∀ (n : Nat) (acc : List (UInt8 × UInt8)) (s : List UInt8), s.length ≤ n → ∀ rs r, ranges acc s = some (rs, r) → r.length ≤ s.length := by
  intro n
  induction n with
  | zero =>
    intro acc s hs rs r h
    have : s = [] := List.eq_nil_of_length_eq_zero (by omega)
    subst this
    rw [ranges_end acc rfl] at h
    cases h
    exact Nat.le_refl _
  | succ n ih =>
    intro acc s hs rs r h
    cases hp : plainB s with
    | false =>
      rw [ranges_end acc hp] at h
      cases h
      exact Nat.le_refl _
    | true =>
      by_cases hr : (rng s).1.2 < (rng s).1.1
      · rw [ranges_no acc hp hr] at h
        cases h
      · rw [ranges_on acc hp hr] at h
        have h1 := rng_len hp
        have := ih _ (rng s).2 (by omega) rs r h
        omega
def notB (s : List UInt8) : Bool := s.head? == some 94
/-- what stands behind [; and the rest -/
def setOf (s : List UInt8) : Option (Item × List UInt8) :=
  match ranges [] (if notB s = true then s.tail else s) with
  | none => none
  | some (rs, r) => if rs = [] ∨ r.head? ≠ some 93 then none else some (.set rs (notB s), r.tail)
theorem setOf_len {s r : List UInt8} {it : Item} (h : setOf s = some (it, r)) : r.length ≤ s.length := by
  unfold setOf at h
  split at h
  · cases h
  · rename_i rs r' hr
    split at h
    · cases h
    · cases h
      have h1 := ranges_len _ _ _ (Nat.le_refl _) _ _ hr
      rw [List.length_tail]
      split at h1
      · rw [List.length_tail] at h1
        omega
      · omega
def step (c : UInt8) (t : List UInt8) : Option (Item × List UInt8) :=
  if c = 63 then some (.any, t) else if c = 42 then some (.run, t) else if c = 91 then setOf t else if c = 92 then (match t with | [] => none | b :: u => some (.eq b, u)) else some (.eq c, t)
theorem step_len {c : UInt8} {t r : List UInt8} {it : Item} (h : step c t = some (it, r)) : r.length ≤ t.length := by
  unfold step at h
  split at h
  · cases h; exact Nat.le_refl _
  · split at h
    · cases h; exact Nat.le_refl _
    · split at h
      · exact setOf_len h
      · split at h
        · cases t with
          | nil => cases h
          | cons b u => cases h; simp
        · cases h; exact Nat.le_refl _
def items (acc : List Item) (s : List UInt8) : Option (List Item) :=
  match s with
  | [] => some acc
  | c :: t => match h : step c t with
    | none => none
    | some x => items (acc ++ [x.1]) x.2
termination_by s.length
decreasing_by
  have := step_len (it := x.1) (r := x.2) (c := c) (t := t) h
  simp only [List.length_cons]
  omega
theorem items_nil (acc : List Item) : items acc [] = some acc := by rw [items]
theorem items_no {acc : List Item} {c : UInt8} {t : List UInt8} (h : step c t = none) : items acc (c :: t) = none := by
  rw [items]
  split
  · rfl
  · rename_i h2; rw [h] at h2; cases h2
theorem items_on {acc : List Item} {c : UInt8} {t r : List UInt8} {it : Item} (h : step c t = some (it, r)) : items acc (c :: t) = items (acc ++ [it]) r := by
  conv => lhs; rw [items]
  split
  · rename_i h2; rw [h] at h2; cases h2
  · rename_i x h2; rw [h] at h2; cases h2; rfl
def parse (s : List UInt8) : Option (List Item) := if 40 < s.length then none else items [] s
end Go.Proofs.Ytldoihbblgnpjaa.gl
