/- The plain law of hole.Add: ranges as what they cover. No program in sight. No condition. -/
import Derived.Test.YtdldfllllgogoaaHole
namespace Go.Proofs.Ytdldfllllgogoaa.had

/-- ranges behind lo, one behind the other, with gaps -/
def Canon (lo : Int) : List Rng → Prop
  | [] => True
  | r :: l => lo < r.lo ∧ r.lo < r.hi ∧ Canon r.hi l
def inR (r : Rng) (p : Int) : Prop := r.lo ≤ p ∧ p < r.hi
def cov (l : List Rng) (p : Int) : Prop := ∃ r, r ∈ l ∧ inR r p
theorem cov_nil (p : Int) : ¬ cov [] p := fun ⟨_, h, _⟩ => by cases h
theorem cov_cons {r : Rng} {l : List Rng} {p : Int} : cov (r :: l) p ↔ inR r p ∨ cov l p := by
  unfold cov
  constructor
  · rintro ⟨s, hs, h⟩
    rcases List.mem_cons.1 hs with rfl | hs
    · exact .inl h
    · exact .inr ⟨s, hs, h⟩
  · rintro (h | ⟨s, hs, h⟩)
    · exact ⟨r, by simp, h⟩
    · exact ⟨s, by simp [hs], h⟩
theorem cov_app {l m : List Rng} {p : Int} : cov (l ++ m) p ↔ cov l p ∨ cov m p := by
  induction l with
  | nil => simp [cov_nil]
  | cons r l ih => rw [List.cons_append, cov_cons, cov_cons, ih]; exact or_assoc.symm
theorem Canon.mem : ∀ {l : List Rng} {a : Int}, Canon a l → ∀ s, s ∈ l → a < s.lo ∧ s.lo < s.hi
  | [], _, _, s, hs => by cases hs
  | r :: l, a, h, s, hs => by
    rcases List.mem_cons.1 hs with rfl | hs
    · exact ⟨h.1, h.2.1⟩
    · have := Canon.mem h.2.2 s hs
      have h1 := h.1
      have h2 := h.2.1
      omega
theorem Canon.weak : ∀ {l : List Rng} {a b : Int}, Canon a l → (∀ s, s ∈ l → b < s.lo) → Canon b l
  | [], _, _, _, _ => trivial
  | r :: l, _, _, h, hb => ⟨hb r (by simp), h.2.1, h.2.2⟩
theorem Canon.snoc : ∀ {l : List Rng} {a : Int} {x : Rng}, Canon a l → a < x.lo → (∀ s, s ∈ l → s.hi < x.lo) → x.lo < x.hi → Canon a (l ++ [x])
  | [], _, _, _, h1, _, h3 => ⟨h1, h3, trivial⟩
  | r :: l, _, _, h, _, h2, h3 => ⟨h.1, h.2.1, Canon.snoc h.2.2 (h2 r (by simp)) (fun s hs => h2 s (by simp [hs])) h3⟩
theorem Canon.app : ∀ {l m : List Rng} {a b : Int}, Canon a l → a ≤ b → (∀ s, s ∈ l → s.hi ≤ b) → Canon b m → Canon a (l ++ m)
  | [], m, a, b, _, h1, _, h3 => h3.weak fun s hs => by have := (h3.mem s hs).1; omega
  | r :: l, _, _, _, h, _, h2, h3 => ⟨h.1, h.2.1, Canon.app h.2.2 (h2 r (by simp)) (fun s hs => h2 s (by simp [hs])) h3⟩
theorem ext : ∀ {l m : List Rng} {a b : Int}, Canon a l → Canon b m → (∀ p, cov l p ↔ cov m p) → l = m
  | [], [], _, _, _, _, _ => rfl
  | [], r :: m, _, _, _, h, e => absurd ((e r.lo).2 (cov_cons.2 (.inl ⟨by omega, h.2.1⟩))) (cov_nil _)
  | r :: l, [], _, _, h, _, e => absurd ((e r.lo).1 (cov_cons.2 (.inl ⟨by omega, h.2.1⟩))) (cov_nil _)
  | r :: l, s :: m, a, b, h, k, e => by
    have hr := h.2.1
    have hs := k.2.1
    have up : ∀ {x : Rng} {q : List Rng} {c : Int}, Canon c (x :: q) → ∀ p, cov (x :: q) p → x.lo ≤ p := fun {x q c} hc p hp => by
      rcases cov_cons.1 hp with hp | ⟨y, hy, hp⟩
      · exact hp.1
      · have h1 := (Canon.mem hc.2.2 y hy).1
        have h2 := hc.2.1
        have h3 := hp.1
        omega
    have over : ∀ {x : Rng} {q : List Rng} {c : Int}, Canon c (x :: q) → ¬ cov (x :: q) x.hi := fun {x q c} hc hp => by
      rcases cov_cons.1 hp with hp | ⟨y, hy, hp⟩
      · have := hp.2; omega
      · have h1 := (Canon.mem hc.2.2 y hy).1
        have h3 := hp.1
        omega
    have e1 : s.lo ≤ r.lo := up k _ ((e r.lo).1 (cov_cons.2 (.inl ⟨by omega, hr⟩)))
    have e2 : r.lo ≤ s.lo := up h _ ((e s.lo).2 (cov_cons.2 (.inl ⟨by omega, hs⟩)))
    have e3 : r.hi = s.hi := by
      rcases Int.lt_trichotomy r.hi s.hi with h1 | h1 | h1
      · exact absurd ((e r.hi).2 (cov_cons.2 (.inl ⟨by omega, h1⟩))) (over h)
      · exact h1
      · exact absurd ((e s.hi).1 (cov_cons.2 (.inl ⟨by omega, h1⟩))) (over k)
    have e4 : r = s := by
      cases r; cases s
      simp only [Rng.mk.injEq]
      exact ⟨by simp only at e1 e2; omega, e3⟩
    subst e4
    refine congrArg _ (ext h.2.2 k.2.2 fun p => ?_)
    by_cases hp : inR r p
    · constructor
      · rintro ⟨y, hy, hyp⟩
        have := (Canon.mem h.2.2 y hy).1
        have h5 := hp.2
        have h6 := hyp.1
        omega
      · rintro ⟨y, hy, hyp⟩
        have := (Canon.mem k.2.2 y hy).1
        have h5 := hp.2
        have h6 := hyp.1
        omega
    · have := e p
      rw [cov_cons, cov_cons] at this
      simpa [hp] using this
theorem canon_of : ∀ (l : List Rng) (done : Int), Chain done l l.length → Canon done l
  | [], _, _ => trivial
  | r :: l, done, h => by
    have h0 := h 0 (by simp)
    refine ⟨by simpa [endAt] using h0.1, by simpa using h0.2, canon_of l r.hi fun i hi => ?_⟩
    have h1 := h (i + 1) (by simpa using hi)
    rw [endAt_succ] at h1
    cases i with
    | zero => simpa [endAt] using h1
    | succ i => rw [endAt_succ]; simpa using h1

/-! ### What becomes one -/
structure St where
  a : List Rng
  r : Rng
  b : List Rng
def step (s : St) (x : Rng) : St :=
  if x.hi < s.r.lo then ⟨s.a ++ [x], s.r, s.b⟩
  else if s.r.hi < x.lo then ⟨s.a, s.r, s.b ++ [x]⟩
  else ⟨s.a, ⟨min s.r.lo x.lo, max s.r.hi x.hi⟩, s.b⟩
def mg (l : List Rng) (r : Rng) : St := l.foldl step ⟨[], r, []⟩
def Inv (done : Int) (s : St) (rest : List Rng) : Prop :=
  0 ≤ done ∧ 0 ≤ s.r.lo ∧ s.r.lo < s.r.hi ∧ Canon done s.a ∧ (∀ x, x ∈ s.a → x.hi < s.r.lo) ∧ Canon s.r.hi s.b ∧ (∀ x, x ∈ s.b → done < x.lo) ∧
    ∃ L, done ≤ L ∧ (∀ x, x ∈ s.a → x.hi ≤ L) ∧ (∀ x, x ∈ s.b → x.hi ≤ L) ∧ Canon L rest
def U (s : St) (rest : List Rng) (p : Int) : Prop := cov s.a p ∨ inR s.r p ∨ cov s.b p ∨ cov rest p
theorem inv_step {done : Int} {s : St} {x : Rng} {rest : List Rng} (h : Inv done s (x :: rest)) : Inv done (step s x) rest ∧ ∀ p, U (step s x) rest p ↔ U s (x :: rest) p := by
  obtain ⟨h0, h1, h2, h3, h4, h5, h6, L, h7, h8, h9, h10⟩ := h
  have hx1 := h10.1
  have hx2 := h10.2.1
  unfold step
  split
  · rename_i c1
    refine ⟨⟨h0, h1, h2, h3.snoc (by omega) (fun y hy => by have := h8 y hy; omega) hx2, fun y hy => ?_, h5, h6, x.hi, by omega, fun y hy => ?_, fun y hy => by have := h9 y hy; omega, h10.2.2⟩, fun p => ?_⟩
    · rcases List.mem_append.1 hy with hy | hy
      · exact h4 y hy
      · simp at hy; subst hy; exact c1
    · rcases List.mem_append.1 hy with hy | hy
      · have := h8 y hy; omega
      · simp at hy; subst hy; omega
    · unfold U
      simp only [cov_app, cov_cons, cov_nil, or_false]
      exact Iff.of_eq (by ac_rfl)
  · rename_i c1
    split
    · rename_i c2
      refine ⟨⟨h0, h1, h2, h3, h4, h5.snoc (by omega) (fun y hy => by have := h9 y hy; omega) hx2, fun y hy => ?_, x.hi, by omega, fun y hy => by have := h8 y hy; omega, fun y hy => ?_, h10.2.2⟩, fun p => ?_⟩
      · rcases List.mem_append.1 hy with hy | hy
        · exact h6 y hy
        · simp at hy; subst hy; omega
      · rcases List.mem_append.1 hy with hy | hy
        · have := h9 y hy; omega
        · simp at hy; subst hy; omega
      · unfold U
        simp only [cov_app, cov_cons, cov_nil, or_false, or_assoc]
    · rename_i c2
      have hb : s.b = [] := by
        cases hb : s.b with
        | nil => rfl
        | cons y q =>
          have e1 := (h5.mem y (by rw [hb]; simp))
          have e2 := h9 y (by rw [hb]; simp)
          omega
      refine ⟨⟨h0, by simp only; omega, by simp only; omega, h3, fun y hy => ?_, by simp only [hb]; trivial, by simp only [hb]; simp, x.hi, by omega, fun y hy => by have := h8 y hy; omega, by simp only [hb]; simp, h10.2.2⟩, fun p => ?_⟩
      · have e1 := h4 y hy
        have e2 := h8 y hy
        simp only
        omega
      · unfold U
        simp only [hb, cov_nil, cov_cons, false_or]
        have e : inR ⟨min s.r.lo x.lo, max s.r.hi x.hi⟩ p ↔ inR s.r p ∨ inR x p := by
          unfold inR
          simp only
          omega
        rw [e, or_assoc]
theorem inv_fold {done : Int} : ∀ {rest : List Rng} {s : St}, Inv done s rest → Inv done (rest.foldl step s) [] ∧ ∀ p, U (rest.foldl step s) [] p ↔ U s rest p
  | [], s, h => ⟨h, fun p => Iff.rfl⟩
  | x :: rest, s, h => by
    obtain ⟨h1, h2⟩ := inv_step h
    obtain ⟨h3, h4⟩ := inv_fold h1
    exact ⟨h3, fun p => (h4 p).trans (h2 p)⟩
def out (done : Int) (s : St) : Int × List Rng := if s.r.lo ≤ done then (max done s.r.hi, s.b) else (done, s.a ++ [s.r] ++ s.b)
/-- all that is covered, from nought on -/
def full (d : Int) (l : List Rng) : List Rng := if 0 < d then ⟨0, d⟩ :: l else l
theorem cov_full {d : Int} {l : List Rng} {p : Int} : cov (full d l) p ↔ (0 ≤ p ∧ p < d) ∨ cov l p := by
  unfold full
  split
  · rw [cov_cons]; rfl
  · constructor
    · exact .inr
    · rintro (h | h)
      · omega
      · exact h
theorem out_ok {done : Int} {s : St} (h : Inv done s []) : 0 ≤ (out done s).1 ∧ Canon (out done s).1 (out done s).2 ∧ ∀ p, cov (full (out done s).1 (out done s).2) p ↔ (0 ≤ p ∧ p < done) ∨ U s [] p := by
  obtain ⟨h0, h1, h2, h3, h4, h5, h6, _⟩ := h
  unfold out
  split
  · rename_i c
    have ha : s.a = [] := by
      cases ha : s.a with
      | nil => rfl
      | cons y q =>
        have e1 := h3.mem y (by rw [ha]; simp)
        have e2 := h4 y (by rw [ha]; simp)
        omega
    refine ⟨by simp only; omega, h5.weak fun y hy => ?_, fun p => ?_⟩
    · have e1 := (h5.mem y hy).1
      have e2 := h6 y hy
      simp only
      omega
    · rw [cov_full]
      unfold U
      simp only [ha, cov_nil, false_or, or_false]
      rw [← or_assoc]
      refine or_congr ?_ Iff.rfl
      unfold inR
      omega
  · rename_i c
    refine ⟨h0, ?_, fun p => ?_⟩
    · refine Canon.app (b := s.r.hi) (h3.snoc (by omega) h4 h2) (by omega) (fun y hy => ?_) h5
      rcases List.mem_append.1 hy with hy | hy
      · have := h4 y hy; omega
      · simp at hy; subst hy; omega
    · rw [cov_full]
      unfold U
      simp only [cov_app, cov_cons, cov_nil, or_false, or_assoc]
theorem add_ok {done : Int} {l : List Rng} {r : Rng} (hd : 0 ≤ done) (hl : Canon done l) (h0 : 0 ≤ r.lo) (h1 : r.lo < r.hi) :
    0 ≤ (out done (mg l r)).1 ∧ Canon (out done (mg l r)).1 (out done (mg l r)).2 ∧ ∀ p, cov (full (out done (mg l r)).1 (out done (mg l r)).2) p ↔ (0 ≤ p ∧ p < done) ∨ cov l p ∨ inR r p := by
  have hi : Inv done ⟨[], r, []⟩ l := ⟨hd, h0, h1, trivial, by simp, trivial, by simp, done, Int.le_refl _, by simp, by simp, hl⟩
  obtain ⟨h2, h3⟩ := inv_fold hi
  obtain ⟨h4, h5, h6⟩ := out_ok h2
  refine ⟨h4, h5, fun p => (h6 p).trans (or_congr Iff.rfl ((h3 p).trans ?_))⟩
  unfold U
  simp only [cov_nil, false_or]
  exact or_comm

/-! ### Place by place -/
def ins (n : Int) : List Int → List Int
  | [] => [n]
  | x :: r => if x < n then x :: ins n r else if x = n then x :: r else n :: x :: r
theorem mem_ins {n y : Int} : ∀ {l : List Int}, y ∈ ins n l ↔ y = n ∨ y ∈ l
  | [] => by simp [ins]
  | x :: r => by
    unfold ins
    split
    · rw [List.mem_cons, mem_ins, List.mem_cons]
      constructor
      · rintro (h | h | h) <;> simp [h]
      · rintro (h | h | h) <;> simp [h]
    · split
      · rename_i h
        subst h
        simp
      · simp
theorem ins_sorted {n : Int} : ∀ {l : List Int}, l.Pairwise (· < ·) → (ins n l).Pairwise (· < ·)
  | [], _ => by simp [ins]
  | x :: r, h => by
    obtain ⟨h1, h2⟩ := List.pairwise_cons.1 h
    unfold ins
    split
    · refine List.pairwise_cons.2 ⟨fun y hy => ?_, ins_sorted h2⟩
      rcases mem_ins.1 hy with rfl | hy
      · assumption
      · exact h1 y hy
    · split
      · exact h
      · refine List.pairwise_cons.2 ⟨fun y hy => ?_, h⟩
        rcases List.mem_cons.1 hy with rfl | hy
        · omega
        · have := h1 y hy
          omega
theorem ins_at {n : Int} : ∀ {l : List Int} {k : Nat}, k ≤ l.length → (∀ i, i < k → l.getD i 0 < n) → (k < l.length → n ≤ l.getD k 0) → ins n l = if k < l.length ∧ l.getD k 0 = n then l else l.take k ++ n :: l.drop k
  | [], k, hk, _, _ => by
    obtain rfl : k = 0 := by simpa using hk
    simp [ins]
  | x :: r, 0, _, _, h2 => by
    have := h2 (by simp)
    simp only [List.getD_cons_zero] at this
    unfold ins
    rw [if_neg (by omega)]
    by_cases h : x = n
    · rw [if_pos h, if_pos ⟨by simp, by simpa using h⟩]
    · rw [if_neg h, if_neg (fun e => h (by simpa using e.2))]
      rfl
  | x :: r, k + 1, hk, h1, h2 => by
    have h0 := h1 0 (by omega)
    simp only [List.getD_cons_zero] at h0
    unfold ins
    rw [if_pos h0, ins_at (l := r) (k := k) (by simpa using hk) (fun i hi => by simpa using h1 (i + 1) (by omega)) (fun hk => by simpa using h2 (by simpa using hk))]
    simp only [List.length_cons, Nat.add_lt_add_iff_right, List.getD_cons_succ, List.take_succ_cons, List.drop_succ_cons, List.cons_append]
    split <;> rfl
theorem ins_len (n : Int) : ∀ l : List Int, (ins n l).length ≤ l.length + 1
  | [] => by simp [ins]
  | x :: r => by
    have := ins_len n r
    unfold ins
    split
    · simp; omega
    · split <;> simp
/-- all places where something changes -/
def places (done : Int) (all : List Rng) : List Int := all.foldl (fun P x => ins x.hi (ins x.lo P)) (ins done (ins 0 []))
theorem fold_mem {y : Int} : ∀ {all : List Rng} {P : List Int}, y ∈ all.foldl (fun P x => ins x.hi (ins x.lo P)) P ↔ y ∈ P ∨ ∃ x, x ∈ all ∧ (y = x.lo ∨ y = x.hi)
  | [], P => by simp
  | a :: all, P => by
    rw [List.foldl_cons, fold_mem, mem_ins, mem_ins]
    constructor
    · rintro ((h | h | h) | ⟨x, hx, h⟩)
      · exact .inr ⟨a, by simp, .inr h⟩
      · exact .inr ⟨a, by simp, .inl h⟩
      · exact .inl h
      · exact .inr ⟨x, by simp [hx], h⟩
    · rintro (h | ⟨x, hx, h⟩)
      · exact .inl (.inr (.inr h))
      · rcases List.mem_cons.1 hx with rfl | hx
        · rcases h with h | h
          · exact .inl (.inr (.inl h))
          · exact .inl (.inl h)
        · exact .inr ⟨x, hx, h⟩
theorem fold_sorted : ∀ {all : List Rng} {P : List Int}, P.Pairwise (· < ·) → (all.foldl (fun P x => ins x.hi (ins x.lo P)) P).Pairwise (· < ·)
  | [], _, h => h
  | _ :: all, _, h => fold_sorted (all := all) (ins_sorted (ins_sorted h))
theorem places_sorted (done : Int) (all : List Rng) : (places done all).Pairwise (· < ·) := fold_sorted (ins_sorted (ins_sorted (by simp)))
theorem mem_places {done : Int} {all : List Rng} {y : Int} : y ∈ places done all ↔ y = done ∨ y = 0 ∨ ∃ x, x ∈ all ∧ (y = x.lo ∨ y = x.hi) := by
  unfold places
  rw [fold_mem, mem_ins, mem_ins]
  simp [or_assoc]
def came (done : Int) (all : List Rng) (n : Int) : Prop := n < done ∨ cov all n
/-- one place more -/
noncomputable def grow (done : Int) (all : List Rng) (o : List Rng) (a b : Int) : List Rng :=
  open Classical in if came done all a then (match o.getLast? with | some x => if x.hi = a then o.dropLast ++ [⟨x.lo, b⟩] else o ++ [⟨a, b⟩] | none => [⟨a, b⟩]) else o
noncomputable def sweep (done : Int) (all : List Rng) (P : List Int) : Nat → List Rng
  | 0 => []
  | i + 1 => grow done all (sweep done all P i) (P.getD i 0) (P.getD (i + 1) 0)
structure Fit (done : Int) (all : List Rng) (P : List Int) : Prop where
  rising : ∀ i j, i < j → j < P.length → P.getD i 0 < P.getD j 0
  has : ∀ y, y = done ∨ y = 0 ∨ (∃ x, x ∈ all ∧ (y = x.lo ∨ y = x.hi)) → ∃ i, i < P.length ∧ P.getD i 0 = y
  nought : ∀ i, i < P.length → 0 ≤ P.getD i 0
theorem fit_places {done : Int} {all : List Rng} (hd : 0 ≤ done) (ha : ∀ x, x ∈ all → 0 ≤ x.lo ∧ x.lo ≤ x.hi) : Fit done all (places done all) := by
  refine ⟨fun i j hij hj => ?_, fun y hy => ?_, fun i hi => ?_⟩
  · have h := places_sorted done all
    rw [List.pairwise_iff_getElem] at h
    have := h i j (by omega) hj hij
    simpa [List.getD_eq_getElem?_getD, List.getElem?_eq_getElem hj, List.getElem?_eq_getElem (show i < (places done all).length by omega)] using this
  · obtain ⟨i, hi, hv⟩ := List.mem_iff_getElem.1 (mem_places.2 hy)
    exact ⟨i, hi, by rw [List.getD_eq_getElem?_getD, List.getElem?_eq_getElem hi]; exact hv⟩
  · have hm : (places done all).getD i 0 ∈ places done all := by
      rw [List.getD_eq_getElem?_getD, List.getElem?_eq_getElem hi]
      exact List.getElem_mem hi
    rcases mem_places.1 hm with h | h | ⟨x, hx, h | h⟩
    · omega
    · omega
    · have := ha x hx; omega
    · have := ha x hx; omega
/-- no place lies between two that follow -/
theorem Fit.side {done : Int} {all : List Rng} {P : List Int} (h : Fit done all P) {i : Nat} (hi : i + 1 < P.length) {y : Int} (hy : y = done ∨ y = 0 ∨ ∃ x, x ∈ all ∧ (y = x.lo ∨ y = x.hi)) : y ≤ P.getD i 0 ∨ P.getD (i + 1) 0 ≤ y := by
  obtain ⟨j, hj, rfl⟩ := h.has y hy
  rcases Nat.lt_or_ge i j with hij | hij
  · refine .inr ?_
    by_cases e : j = i + 1
    · subst e; omega
    · have := h.rising (i + 1) j (by omega) hj; omega
  · refine .inl ?_
    by_cases e : j = i
    · subst e; omega
    · have := h.rising j i (by omega) (by omega); omega
theorem Fit.same {done : Int} {all : List Rng} {P : List Int} (h : Fit done all P) {i : Nat} (hi : i + 1 < P.length) {p : Int} (h1 : P.getD i 0 ≤ p) (h2 : p < P.getD (i + 1) 0) : came done all p ↔ came done all (P.getD i 0) := by
  unfold came cov inR
  have hd := h.side hi (.inl rfl : done = done ∨ _)
  constructor
  · rintro (h3 | ⟨x, hx, h3, h4⟩)
    · exact .inl (by omega)
    · have e1 := h.side hi (.inr (.inr ⟨x, hx, .inl rfl⟩))
      exact .inr ⟨x, hx, by omega, by omega⟩
  · rintro (h3 | ⟨x, hx, h3, h4⟩)
    · exact .inl (by omega)
    · have e1 := h.side hi (.inr (.inr ⟨x, hx, .inr rfl⟩))
      exact .inr ⟨x, hx, by omega, by omega⟩
def Sw (done : Int) (all : List Rng) (P : List Int) (i : Nat) (o : List Rng) : Prop := Canon (-1) o ∧ (∀ x, x ∈ o → x.hi ≤ P.getD i 0) ∧ ∀ p, cov o p ↔ (0 ≤ p ∧ p < P.getD i 0) ∧ came done all p
theorem Canon.stretch : ∀ {l : List Rng} {a : Int} {x : Rng} {b : Int}, Canon a (l ++ [x]) → x.hi ≤ b → Canon a (l ++ [⟨x.lo, b⟩])
  | [], _, x, b, h, hb => ⟨h.1, by have := h.2.1; simp only; omega, trivial⟩
  | r :: l, _, x, b, h, hb => ⟨h.1, h.2.1, Canon.stretch h.2.2 hb⟩
theorem Canon.left : ∀ {l m : List Rng} {a : Int}, Canon a (l ++ m) → Canon a l
  | [], _, _, _ => trivial
  | _ :: _, _, _, h => ⟨h.1, h.2.1, Canon.left h.2.2⟩
theorem Canon.lastlo : ∀ {l : List Rng} {a : Int} {x : Rng}, Canon a (l ++ [x]) → ∀ s, s ∈ l → s.hi < x.lo
  | [], _, _, _, s, hs => by cases hs
  | r :: l, _, x, h, s, hs => by
    rcases List.mem_cons.1 hs with rfl | hs
    · exact (Canon.mem h.2.2 x (by simp)).1
    · exact Canon.lastlo h.2.2 s hs
theorem Fit.first {done : Int} {all : List Rng} {P : List Int} (h : Fit done all P) : 0 < P.length ∧ P.getD 0 0 = 0 := by
  obtain ⟨j, hj, e⟩ := h.has 0 (.inr (.inl rfl))
  have h0 := h.nought 0 (by omega)
  refine ⟨by omega, ?_⟩
  by_cases e0 : j = 0
  · subst e0; exact e
  · have := h.rising 0 j (by omega) hj; omega
theorem sw_zero {done : Int} {all : List Rng} {P : List Int} (h : Fit done all P) : Sw done all P 0 [] := by
  refine ⟨trivial, by simp, fun p => ?_⟩
  rw [h.first.2]
  constructor
  · intro hc; exact absurd hc (cov_nil p)
  · rintro ⟨hc, _⟩; omega
theorem sw_step {done : Int} {all : List Rng} {P : List Int} (h : Fit done all P) {i : Nat} (hi : i + 1 < P.length) {o : List Rng} (hs : Sw done all P i o) : Sw done all P (i + 1) (grow done all o (P.getD i 0) (P.getD (i + 1) 0)) := by
  unfold Sw at hs ⊢
  obtain ⟨h1, h2, h3⟩ := hs
  have hr := h.rising i (i + 1) (by omega) hi
  have h0 := h.nought i (by omega)
  have hS := fun {p : Int} (a : P.getD i 0 ≤ p) (b : p < P.getD (i + 1) 0) => h.same hi a b
  generalize P.getD i 0 = a at *
  generalize hb : P.getD (i + 1) 0 = b at *
  unfold grow
  by_cases hc : came done all a
  · rw [if_pos hc]
    have key : ∀ {o' : List Rng}, (∀ p, cov o' p ↔ cov o p ∨ (a ≤ p ∧ p < b)) → ∀ p, cov o' p ↔ (0 ≤ p ∧ p < b) ∧ came done all p := fun {o'} ho p => by
      rw [ho, h3]
      constructor
      · rintro (⟨⟨e1, e2⟩, e3⟩ | ⟨e1, e2⟩)
        · exact ⟨⟨e1, by omega⟩, e3⟩
        · exact ⟨⟨by omega, e2⟩, (hS e1 e2).2 hc⟩
      · rintro ⟨⟨e1, e2⟩, e3⟩
        by_cases e4 : p < a
        · exact .inl ⟨⟨e1, e4⟩, e3⟩
        · exact .inr ⟨by omega, e2⟩
    rcases List.eq_nil_or_concat o with rfl | ⟨o', x, ho⟩
    · simp only [List.getLast?_nil]
      refine ⟨⟨by simp only; omega, hr, trivial⟩, fun y hy => ?_, key fun p => ?_⟩
      · simp at hy; subst hy; exact Int.le_refl _
      · rw [cov_cons]; simp only [cov_nil, or_false, false_or]; rfl
    · subst ho
      rw [List.concat_eq_append] at *
      simp only [List.getLast?_append, List.getLast?_singleton, Option.some_or]
      have hxl := h1.mem x (by simp)
      have hxa := h2 x (by simp)
      by_cases e : x.hi = a
      · rw [if_pos e, List.dropLast_concat]
        refine ⟨h1.stretch (by omega), fun y hy => ?_, key fun p => ?_⟩
        · rcases List.mem_append.1 hy with hy | hy
          · have := h2 y (by simp [hy]); omega
          · simp at hy; subst hy; exact Int.le_refl _
        · rw [cov_app, cov_app, cov_cons, cov_cons]
          simp only [cov_nil, or_false, or_assoc]
          refine or_congr Iff.rfl ?_
          unfold inR
          simp only
          omega
      · rw [if_neg e]
        refine ⟨h1.snoc (by simp only; omega) (fun y hy => ?_) hr, fun y hy => ?_, key fun p => ?_⟩
        · rcases List.mem_append.1 hy with hy' | hy'
          · have e1 := h1.lastlo y hy'
            simp only
            omega
          · simp at hy'; subst hy'; simp only; omega
        · rcases List.mem_append.1 hy with hy | hy
          · have := h2 y hy; omega
          · simp at hy; subst hy; exact Int.le_refl _
        · rw [cov_app, cov_cons]
          simp only [cov_nil, or_false]
          rfl
  · rw [if_neg hc]
    refine ⟨h1, fun y hy => by have := h2 y hy; omega, fun p => ?_⟩
    rw [h3]
    constructor
    · rintro ⟨⟨e1, e2⟩, e3⟩
      exact ⟨⟨e1, by omega⟩, e3⟩
    · rintro ⟨⟨e1, e2⟩, e3⟩
      by_cases e4 : p < a
      · exact ⟨⟨e1, e4⟩, e3⟩
      · exact absurd ((hS (by omega) e2).1 e3) hc
theorem sw_all {done : Int} {all : List Rng} {P : List Int} (h : Fit done all P) : ∀ {i : Nat}, i < P.length → Sw done all P i (sweep done all P i)
  | 0, _ => sw_zero h
  | i + 1, hi => sw_step h hi (sw_all h (by omega))
theorem sw_end {done : Int} {all : List Rng} {P : List Int} (h : Fit done all P) {i : Nat} (hi : i + 1 = P.length) : Canon (-1) (sweep done all P i) ∧ ∀ p, cov (sweep done all P i) p ↔ 0 ≤ p ∧ came done all p := by
  obtain ⟨h1, _, h3⟩ := sw_all h (show i < P.length by omega)
  refine ⟨h1, fun p => ?_⟩
  rw [h3]
  constructor
  · rintro ⟨⟨e1, _⟩, e3⟩; exact ⟨e1, e3⟩
  · rintro ⟨e1, e3⟩
    have top : ∀ y, (y = done ∨ y = 0 ∨ ∃ x, x ∈ all ∧ (y = x.lo ∨ y = x.hi)) → y ≤ P.getD i 0 := fun y hy => by
      obtain ⟨j, hj, rfl⟩ := h.has y hy
      by_cases e : j = i
      · subst e; omega
      · have := h.rising j i (by omega) (by omega); omega
    refine ⟨⟨e1, ?_⟩, e3⟩
    rcases e3 with e3 | ⟨x, hx, _, e3⟩
    · have := top done (.inl rfl); omega
    · have := top x.hi (.inr (.inr ⟨x, hx, .inr rfl⟩)); omega
theorem sweep_len (done : Int) (all : List Rng) (P : List Int) : ∀ i, (sweep done all P i).length ≤ i
  | 0 => by simp [sweep]
  | i + 1 => by
    have := sweep_len done all P i
    unfold sweep grow
    split
    · split
      · split
        · simp; omega
        · simp; omega
      · simp
    · omega
/-- what is handed back of the whole cover -/
def cut (o : List Rng) : Int × List Rng := match o with
  | [] => (0, [])
  | r :: l => if r.lo = 0 then (r.hi, l) else (0, r :: l)
theorem cut_full {d : Int} {l : List Rng} (hd : 0 ≤ d) (hl : Canon d l) : cut (full d l) = (d, l) := by
  unfold full
  by_cases h : 0 < d
  · rw [if_pos h]
    simp [cut]
  · rw [if_neg h]
    obtain rfl : d = 0 := by omega
    cases l with
    | nil => rfl
    | cons r l =>
      have := hl.1
      simp only [cut]
      rw [if_neg (by omega)]
def addTo (done : Int) (l : List Rng) (r : Rng) : Int × List Rng := if r.lo < r.hi then out done (mg l r) else (done, l)
theorem addTo_ok {done : Int} {l : List Rng} {r : Rng} (hd : 0 ≤ done) (hl : Canon done l) (h0 : 0 ≤ r.lo) (h1 : r.lo ≤ r.hi) :
    0 ≤ (addTo done l r).1 ∧ Canon (addTo done l r).1 (addTo done l r).2 ∧ ∀ p, cov (full (addTo done l r).1 (addTo done l r).2) p ↔ (0 ≤ p ∧ p < done) ∨ cov l p ∨ inR r p := by
  unfold addTo
  by_cases h : r.lo < r.hi
  · rw [if_pos h]
    exact add_ok hd hl h0 h
  · rw [if_neg h]
    refine ⟨hd, hl, fun p => ?_⟩
    rw [cov_full]
    refine or_congr Iff.rfl ?_
    have : ¬ inR r p := fun e => by have := e.1; have := e.2; omega
    simp [this]
theorem full_canon {d : Int} {l : List Rng} (hd : 0 ≤ d) (hl : Canon d l) : Canon (-1) (full d l) := by
  unfold full
  split
  · exact ⟨by simp only; omega, by simpa, hl⟩
  · exact hl.weak fun s hs => by have := (hl.mem s hs).1; omega
/-- the two ways answer alike -/
theorem both {done : Int} {l : List Rng} {r : Rng} (hd : 0 ≤ done) (hl : Canon done l) (h0 : 0 ≤ r.lo) (h1 : r.lo ≤ r.hi) {i : Nat} (hi : i + 1 = (places done (l ++ [r])).length) :
    cut (sweep done (l ++ [r]) (places done (l ++ [r])) i) = addTo done l r := by
  have hF : Fit done (l ++ [r]) (places done (l ++ [r])) := fit_places hd fun x hx => by
    rcases List.mem_append.1 hx with hx | hx
    · have := hl.mem x hx; omega
    · simp at hx; subst hx; omega
  obtain ⟨h2, h3⟩ := sw_end hF hi
  obtain ⟨h4, h5, h6⟩ := addTo_ok hd hl h0 h1
  have e : sweep done (l ++ [r]) (places done (l ++ [r])) i = full (addTo done l r).1 (addTo done l r).2 := by
    refine ext h2 (full_canon h4 h5) fun p => ?_
    rw [h3, h6]
    unfold came
    rw [cov_app, cov_cons]
    simp only [cov_nil, or_false]
    constructor
    · rintro ⟨e1, e2 | e2 | e2⟩
      · exact .inl ⟨e1, e2⟩
      · exact .inr (.inl e2)
      · exact .inr (.inr e2)
    · rintro (⟨e1, e2⟩ | e2 | e2)
      · exact ⟨e1, .inl e2⟩
      · obtain ⟨x, hx, e3, e4⟩ := e2
        have := (hl.mem x hx).1
        exact ⟨by omega, .inr (.inl ⟨x, hx, e3, e4⟩)⟩
      · have := e2.1
        exact ⟨by omega, .inr (.inr e2)⟩
  rw [e, cut_full h4 h5]
end Go.Proofs.Ytdldfllllgogoaa.had
