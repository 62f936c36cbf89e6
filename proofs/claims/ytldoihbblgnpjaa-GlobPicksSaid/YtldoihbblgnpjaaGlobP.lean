/- The plain law of package glob: patterns as items; the turns of a match and the table agree. No program in sight. No condition. -/
namespace Go.Proofs.Ytldoihbblgnpjaa.gl

inductive Item where
  | run
  | any
  | eq (b : UInt8)
  | set (rs : List (UInt8 × UInt8)) (no : Bool)
def Item.isRun : Item → Bool
  | .run => true
  | _ => false
def inRs (rs : List (UInt8 × UInt8)) (b : UInt8) : Bool := rs.any fun r => decide (r.1 ≤ b) && decide (b ≤ r.2)
def Item.takes : Item → UInt8 → Bool
  | .run, _ => false
  | .any, _ => true
  | .eq c, b => b == c
  | .set rs no, b => inRs rs b != no

/-- what the items are of -/
def M : List Item → List UInt8 → Prop
  | [], n => n = []
  | it :: is, n => if it.isRun = true then ∃ k, k ≤ n.length ∧ M is (n.drop k) else ∃ b t, n = b :: t ∧ it.takes b = true ∧ M is t
theorem M_nil (n : List UInt8) : M [] n ↔ n = [] := Iff.rfl
theorem M_run {it : Item} (h : it.isRun = true) (is : List Item) (n : List UInt8) : M (it :: is) n ↔ ∃ k, k ≤ n.length ∧ M is (n.drop k) := by show (if it.isRun = true then _ else _) ↔ _; rw [if_pos h]
theorem M_one {it : Item} (h : it.isRun = false) (is : List Item) (n : List UInt8) : M (it :: is) n ↔ ∃ b t, n = b :: t ∧ it.takes b = true ∧ M is t := by show (if it.isRun = true then _ else _) ↔ _; rw [if_neg (by rw [h]; simp)]

/-- the items from i on are of the name from a on -/
def E (is : List Item) (n : List UInt8) (i a : Nat) : Prop := M (is.drop i) (n.drop a)
section
variable {is : List Item} {n : List UInt8}
theorem drop_item {i : Nat} (h : i < is.length) : is.drop i = is.getD i .run :: is.drop (i + 1) := by
  rw [List.drop_eq_getElem_cons h, List.getD_eq_getElem?_getD, List.getElem?_eq_getElem h]; rfl
theorem drop_byte {a : Nat} (h : a < n.length) : n.drop a = n.getD a 0 :: n.drop (a + 1) := by
  rw [List.drop_eq_getElem_cons h, List.getD_eq_getElem?_getD, List.getElem?_eq_getElem h]; rfl
theorem E_end (i a : Nat) (h : is.length ≤ i) : E is n i a ↔ n.length ≤ a := by
  unfold E
  rw [List.drop_eq_nil_of_le h, M_nil, List.drop_eq_nil_iff]
theorem E_run {i a : Nat} (h : i < is.length) (hr : (is.getD i .run).isRun = true) (ha : a ≤ n.length) : E is n i a ↔ ∃ k, a ≤ k ∧ k ≤ n.length ∧ E is n (i + 1) k := by
  unfold E
  rw [drop_item h, M_run hr]
  constructor
  · rintro ⟨k, hk, hm⟩
    rw [List.length_drop] at hk
    rw [List.drop_drop] at hm
    exact ⟨a + k, by omega, by omega, hm⟩
  · rintro ⟨k, h1, h2, hm⟩
    refine ⟨k - a, by rw [List.length_drop]; omega, ?_⟩
    rw [List.drop_drop, show a + (k - a) = k by omega]
    exact hm
theorem E_one {i a : Nat} (h : i < is.length) (hr : (is.getD i .run).isRun = false) (ha : a < n.length) : E is n i a ↔ (is.getD i .run).takes (n.getD a 0) = true ∧ E is n (i + 1) (a + 1) := by
  unfold E
  rw [drop_item h, drop_byte ha, M_one hr]
  constructor
  · rintro ⟨b, t, e, h1, h2⟩
    cases e
    exact ⟨h1, h2⟩
  · rintro ⟨h1, h2⟩
    exact ⟨_, _, rfl, h1, h2⟩
theorem E_one_end {i a : Nat} (h : i < is.length) (hr : (is.getD i .run).isRun = false) (ha : n.length ≤ a) : ¬ E is n i a := by
  unfold E
  rw [drop_item h, List.drop_eq_nil_of_le ha, M_one hr]
  rintro ⟨b, t, e, _⟩
  cases e
theorem E_mono {i a b : Nat} (h : i < is.length) (hr : (is.getD i .run).isRun = true) (hab : a ≤ b) (hb : b ≤ n.length) (he : E is n i b) : E is n i a := by
  rw [E_run h hr (by omega)] at he ⊢
  obtain ⟨k, h1, h2, h3⟩ := he
  exact ⟨k, by omega, h2, h3⟩

/-! ### The turns -/
/-- the items r+1 .. i-1 took the bytes from f on, one each; there is no run among them -/
structure Seg (is : List Item) (n : List UInt8) (r i f a : Nat) : Prop where
  ri : r ≤ i
  len : a = f + (i - r)
  il : i ≤ is.length
  al : a ≤ n.length
  ok : ∀ j, r ≤ j → j < i → (is.getD j .run).isRun = false ∧ (is.getD j .run).takes (n.getD (f + (j - r)) 0) = true
theorem Seg.nil {r f : Nat} (h : r ≤ is.length) (hf : f ≤ n.length) : Seg is n r r f f := ⟨Nat.le_refl _, by omega, h, hf, fun j h1 h2 => by omega⟩
theorem Seg.snoc {r i f a : Nat} (h : Seg is n r i f a) (hi : i < is.length) (ha : a < n.length) (hr : (is.getD i .run).isRun = false) (ht : (is.getD i .run).takes (n.getD a 0) = true) : Seg is n r (i + 1) f (a + 1) := by
  obtain ⟨h1, h2, h3, h4, h5⟩ := h
  refine ⟨by omega, by omega, by omega, by omega, fun j hj1 hj2 => ?_⟩
  by_cases e : j = i
  · subst e
    rw [← h2]
    exact ⟨hr, ht⟩
  · exact h5 j hj1 (by omega)
theorem Seg.at_ {r i f a : Nat} (h : Seg is n r i f a) : E is n r f ↔ E is n i a := by
  obtain ⟨h1, h2, h3, h4, h5⟩ := h
  have key : ∀ d, d ≤ i - r → (E is n r f ↔ E is n (r + d) (f + d)) := by
    intro d
    induction d with
    | zero => intro _; exact Iff.rfl
    | succ d ih =>
      intro hd
      have h6 := h5 (r + d) (by omega) (by omega)
      rw [show f + (r + d - r) = f + d by omega] at h6
      rw [ih (by omega), E_one (by omega) h6.1 (by omega), h6.2]
      simp [Nat.add_assoc]
  have := key (i - r) (Nat.le_refl _)
  rwa [show r + (i - r) = i by omega, ← h2] at this
/-- from any place on, the items of the segment take as many bytes -/
theorem Seg.on {r i f a k : Nat} (h : Seg is n r i f a) (hk : k ≤ n.length) (he : E is n r k) : k + (i - r) ≤ n.length ∧ E is n i (k + (i - r)) := by
  obtain ⟨h1, h2, h3, h4, h5⟩ := h
  have key : ∀ d, d ≤ i - r → k + d ≤ n.length ∧ E is n (r + d) (k + d) := by
    intro d
    induction d with
    | zero => intro _; exact ⟨hk, he⟩
    | succ d ih =>
      intro hd
      obtain ⟨h7, h8⟩ := ih (by omega)
      have h6 := h5 (r + d) (by omega) (by omega)
      rcases Nat.lt_or_ge (k + d) n.length with h9 | h9
      · rw [E_one (by omega) h6.1 h9] at h8
        exact ⟨by omega, by simpa [Nat.add_assoc] using h8.2⟩
      · exact absurd h8 (E_one_end (by omega) h6.1 h9)
  have := key (i - r) (Nat.le_refl _)
  rwa [show r + (i - r) = i by omega] at this
/-- the state of the turns: g: a run was met, at item r-1; f: from where on it was tried -/
structure Turn (is : List Item) (n : List UInt8) (i a : Nat) (g : Bool) (r f : Nat) : Prop where
  seg : Seg is n r i f a
  one : g = false → r = 0 ∧ f = 0
  say : g = false → (E is n 0 0 ↔ E is n r f)
  say2 : g = true → (E is n 0 0 ↔ ∃ k, f ≤ k ∧ k ≤ n.length ∧ E is n r k)
theorem Turn.start : Turn is n 0 0 false 0 0 := ⟨Seg.nil (Nat.zero_le _) (Nat.zero_le _), fun _ => ⟨rfl, rfl⟩, fun _ => Iff.rfl, fun h => (by cases h)⟩
theorem Turn.star {i a r f : Nat} {g : Bool} (h : Turn is n i a g r f) (hi : i < is.length) (hr : (is.getD i .run).isRun = true) : Turn is n (i + 1) a true (i + 1) a := by
  refine ⟨Seg.nil (by omega) h.seg.al, fun h => (by cases h), fun h => (by cases h), fun _ => ?_⟩
  rw [← E_run hi hr h.seg.al]
  cases g with
  | false => rw [h.say rfl, h.seg.at_]
  | true =>
    rw [h.say2 rfl]
    constructor
    · rintro ⟨k, h1, h2, h3⟩
      obtain ⟨h4, h5⟩ := h.seg.on h2 h3
      have := h.seg.len
      exact E_mono hi hr (by omega) h4 h5
    · intro he
      have h1 := h.seg.len
      have h2 := h.seg.al
      exact ⟨f, Nat.le_refl _, by omega, h.seg.at_.2 he⟩
theorem Turn.take {i a r f : Nat} {g : Bool} (h : Turn is n i a g r f) (hi : i < is.length) (ha : a < n.length) (hr : (is.getD i .run).isRun = false) (ht : (is.getD i .run).takes (n.getD a 0) = true) : Turn is n (i + 1) (a + 1) g r f :=
  ⟨h.seg.snoc hi ha hr ht, h.one, h.say, h.say2⟩
/-- nothing goes on here -/
def Stuck (is : List Item) (n : List UInt8) (i a : Nat) : Prop := a < n.length ∧ (i < is.length → (is.getD i .run).isRun = false ∧ (is.getD i .run).takes (n.getD a 0) = false)
theorem Stuck.no {i a : Nat} (h : Stuck is n i a) : ¬ E is n i a := by
  rcases Nat.lt_or_ge i is.length with hi | hi
  · rw [E_one hi (h.2 hi).1 h.1, (h.2 hi).2]
    simp
  · rw [E_end i a hi]
    have := h.1
    omega
theorem Turn.back {i a r f : Nat} (h : Turn is n i a true r f) (hs : Stuck is n i a) : Turn is n r (f + 1) true r (f + 1) := by
  have h1 := h.seg.len
  have h2 := hs.1
  have h3 := h.seg.ri
  have h4 := h.seg.il
  refine ⟨Seg.nil (by omega) (by omega), fun h => (by cases h), fun h => (by cases h), fun _ => ?_⟩
  rw [h.say2 rfl]
  constructor
  · rintro ⟨k, h5, h6, h7⟩
    refine ⟨k, ?_, h6, h7⟩
    rcases Nat.lt_or_ge f k with h8 | h8
    · omega
    · obtain rfl : k = f := by omega
      exact absurd (h.seg.at_.1 h7) hs.no
  · rintro ⟨k, h5, h6, h7⟩
    exact ⟨k, by omega, h6, h7⟩
theorem Turn.fail {i a r f : Nat} (h : Turn is n i a false r f) (hs : Stuck is n i a) : ¬ E is n 0 0 := by
  rw [h.say rfl, h.seg.at_]
  exact hs.no
theorem Turn.done {i a r f : Nat} {g : Bool} (h : Turn is n i a g r f) (ha : a = n.length) : E is n 0 0 ↔ E is n i n.length := by
  subst ha
  cases g with
  | false => rw [h.say rfl, h.seg.at_]
  | true =>
    rw [h.say2 rfl]
    constructor
    · rintro ⟨k, h1, h2, h3⟩
      obtain ⟨h4, h5⟩ := h.seg.on h2 h3
      have := h.seg.len
      rwa [show k + (i - r) = n.length by omega] at h5
    · intro he
      have h1 := h.seg.len
      exact ⟨f, Nat.le_refl _, by omega, h.seg.at_.2 he⟩
/-- behind the name: runs alone -/
theorem tail_run {i : Nat} (hi : i < is.length) (hr : (is.getD i .run).isRun = true) : E is n i n.length ↔ E is n (i + 1) n.length := by
  rw [E_run hi hr (Nat.le_refl _)]
  constructor
  · rintro ⟨k, h1, h2, h3⟩
    obtain rfl : k = n.length := by omega
    exact h3
  · intro h
    exact ⟨_, Nat.le_refl _, Nat.le_refl _, h⟩
theorem tail_end {i : Nat} (hi : is.length ≤ i) : E is n i n.length := (E_end i _ hi).2 (Nat.le_refl _)
theorem tail_no {i : Nat} (hi : i < is.length) (hr : (is.getD i .run).isRun = false) : ¬ E is n i n.length := E_one_end hi hr (Nat.le_refl _)

/-! ### The table -/
def Dr (it : Item) (n : List UInt8) (prev : Nat → Bool) : Nat → Bool
  | 0 => it.isRun && prev 0
  | k + 1 => if it.isRun = true then prev (k + 1) || Dr it n prev k else prev k && it.takes (n.getD k 0)
def D (is : List Item) (n : List UInt8) : Nat → Nat → Bool
  | 0 => fun k => k == 0
  | j + 1 => Dr (is.getD j .run) n (D is n j)
theorem Dr_run {it : Item} (h : it.isRun = true) (n : List UInt8) (p : Nat → Bool) (k : Nat) : Dr it n p k = true ↔ ∃ k', k' ≤ k ∧ p k' = true := by
  induction k with
  | zero =>
    simp only [Dr, h, Bool.true_and]
    constructor
    · exact fun h => ⟨0, Nat.le_refl _, h⟩
    · rintro ⟨k', h1, h2⟩
      obtain rfl : k' = 0 := by omega
      exact h2
  | succ k ih =>
    simp only [Dr, h, if_true, Bool.or_eq_true, ih]
    constructor
    · rintro (h1 | ⟨k', h1, h2⟩)
      · exact ⟨_, Nat.le_refl _, h1⟩
      · exact ⟨k', by omega, h2⟩
    · rintro ⟨k', h1, h2⟩
      by_cases e : k' = k + 1
      · subst e; exact .inl h2
      · exact .inr ⟨k', by omega, h2⟩
theorem Dr_one {it : Item} (h : it.isRun = false) (n : List UInt8) (p : Nat → Bool) (k : Nat) : Dr it n p k = true ↔ ∃ k', k = k' + 1 ∧ p k' = true ∧ it.takes (n.getD k' 0) = true := by
  cases k with
  | zero => simp [Dr, h]
  | succ k => simp [Dr, h]
theorem D_says (j : Nat) (hj : j ≤ is.length) : E is n 0 0 ↔ ∃ k, k ≤ n.length ∧ D is n j k = true ∧ E is n j k := by
  induction j with
  | zero =>
    constructor
    · exact fun h => ⟨0, Nat.zero_le _, rfl, h⟩
    · rintro ⟨k, _, h1, h2⟩
      obtain rfl : k = 0 := by simpa [D] using h1
      exact h2
  | succ j ih =>
    rw [ih (by omega)]
    cases hr : (is.getD j .run).isRun with
    | true =>
      constructor
      · rintro ⟨k, h1, h2, h3⟩
        rw [E_run (by omega) hr h1] at h3
        obtain ⟨k', h4, h5, h6⟩ := h3
        exact ⟨k', h5, (Dr_run hr n _ _).2 ⟨k, h4, h2⟩, h6⟩
      · rintro ⟨k, h1, h2, h3⟩
        obtain ⟨k', h4, h5⟩ := (Dr_run hr n _ _).1 h2
        exact ⟨k', by omega, h5, (E_run (by omega) hr (by omega)).2 ⟨k, h4, h1, h3⟩⟩
    | false =>
      constructor
      · rintro ⟨k, h1, h2, h3⟩
        rcases Nat.lt_or_ge k n.length with h4 | h4
        · rw [E_one (by omega) hr h4] at h3
          exact ⟨k + 1, by omega, (Dr_one hr n _ _).2 ⟨k, rfl, h2, h3.1⟩, h3.2⟩
        · exact absurd h3 (E_one_end (by omega) hr h4)
      · rintro ⟨k, h1, h2, h3⟩
        obtain ⟨k', rfl, h4, h5⟩ := (Dr_one hr n _ _).1 h2
        exact ⟨k', by omega, h4, (E_one (by omega) hr (by omega)).2 ⟨h5, h3⟩⟩
end
/-- is the name of the items? -/
def matches_ (is : List Item) (n : List UInt8) : Bool := D is n is.length n.length
theorem matches_iff (is : List Item) (n : List UInt8) : matches_ is n = true ↔ E is n 0 0 := by
  rw [D_says is.length (Nat.le_refl _)]
  constructor
  · intro h
    exact ⟨_, Nat.le_refl _, h, (E_end _ _ (Nat.le_refl _)).2 (Nat.le_refl _)⟩
  · rintro ⟨k, h1, h2, h3⟩
    rw [E_end _ _ (Nat.le_refl _)] at h3
    obtain rfl : k = n.length := by omega
    exact h2
end Go.Proofs.Ytldoihbblgnpjaa.gl
