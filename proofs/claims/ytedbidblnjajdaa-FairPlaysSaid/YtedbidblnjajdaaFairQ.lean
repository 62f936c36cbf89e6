/- Package fair: what Play answers, in plain words. No condition. -/
import Derived.Test.YtedbidblnjajdaaFairP
namespace Go.Proofs.Ytedbidblnjajdaa.fr

def step (nq : Nat) (q : Nat → Int) (s : St) (x : Feed) : St × Served :=
  if 0 < x.size then ((come nq s x.flow x.size).1, ⟨(come nq s x.flow x.size).2, 0, 0⟩)
  else if x.size < 0 then (s, ⟨2, 0, 0⟩)
  else match s.t with
    | [] => (s, ⟨7, 0, 0⟩)
    | _ :: _ => match (spin q (mu s + 1) s).t with
      | [] => (s, ⟨7, 0, 0⟩)
      | i :: tl => (sent (spin q (mu s + 1) s) i tl, ⟨0, i, first (spin q (mu s + 1) s) i⟩)
def plays (nq : Nat) (q : Nat → Int) : St → List Feed → List Served
  | _, [] => []
  | s, x :: r => (step nq q s x).2 :: plays nq q (step nq q s x).1 r
theorem plays_drop (nq : Nat) (q : Nat → Int) (s : St) {l : List Feed} (z : Feed) {k : Nat} (h : k < l.length) : plays nq q s (l.drop k) = (step nq q s (l.getD k z)).2 :: plays nq q (step nq q s (l.getD k z)).1 (l.drop (k + 1)) := by
  rw [drop_getD l z h]
  rfl
theorem plays_end (nq : Nat) (q : Nat → Int) (s : St) (l : List Feed) : plays nq q s (l.drop l.length) = [] := by rw [List.drop_length]; rfl
theorem step_come {nq : Nat} {q : Nat → Int} {s : St} {x : Feed} (h : 0 < x.size) : step nq q s x = ((come nq s x.flow x.size).1, ⟨(come nq s x.flow x.size).2, 0, 0⟩) := if_pos h
theorem step_neg {nq : Nat} {q : Nat → Int} {s : St} {x : Feed} (h : x.size < 0) : step nq q s x = (s, ⟨2, 0, 0⟩) := by
  unfold step
  rw [if_neg (by omega), if_pos h]
theorem step_none {nq : Nat} {q : Nat → Int} {s : St} {x : Feed} (h : x.size = 0) (ht : s.t = []) : step nq q s x = (s, ⟨7, 0, 0⟩) := by
  unfold step
  rw [if_neg (by omega), if_neg (by omega), ht]
theorem step_send {nq : Nat} {q : Nat → Int} {s : St} {x : Feed} (h : x.size = 0) (ht : s.t ≠ []) {i : Nat} {tl : List Nat} (h2 : (spin q (mu s + 1) s).t = i :: tl) : step nq q s x = (sent (spin q (mu s + 1) s) i tl, ⟨0, i, first (spin q (mu s + 1) s) i⟩) := by
  unfold step
  rw [if_neg (by omega), if_neg (by omega)]
  cases hs : s.t with
  | nil => exact absurd hs ht
  | cons a r => simp only [h2]
theorem inv_step {nq : Nat} {q : Nat → Int} (hq : ∀ i, i < nq → 1 ≤ q i ∧ q i ≤ 1500) {s : St} (h : Inv nq s) (x : Feed) : Inv nq (step nq q s x).1 := by
  by_cases h1 : 0 < x.size
  · rw [step_come h1]
    exact inv_come h h1
  · by_cases h2 : x.size < 0
    · rw [step_neg h2]
      exact h
    · by_cases h3 : s.t = []
      · rw [step_none (by omega) h3]
        exact h
      · obtain ⟨a, b, i, tl, c, d⟩ := spin_ok hq (n := mu s + 1) h h3 (by omega)
        rw [step_send (by omega) h3 c]
        exact inv_sent a c b d
def qok (n : Int) : Bool := decide (1 ≤ n) && decide (n ≤ 1500)
theorem qok_iff (n : Int) : qok n = true ↔ 1 ≤ n ∧ n ≤ 1500 := by simp [qok]
def qs (l : List Int) : Nat → Int := fun i => l.getD i 0
def out (qu : List Int) (l : List Feed) : List Served :=
  if qu.length = 0 ∨ 6 < qu.length ∨ 300 < l.length then [] else if qu.all qok = false then [] else plays qu.length (qs qu) start l
def code (qu : List Int) (l : List Feed) : Int :=
  if qu.length = 0 ∨ 6 < qu.length ∨ 300 < l.length then 1 else if qu.all qok = false then 2 else 0
theorem qs_ok {qu : List Int} (h : qu.all qok = true) : ∀ i, i < qu.length → 1 ≤ qs qu i ∧ qs qu i ≤ 1500 := fun i hi => by
  rw [List.all_eq_true] at h
  have := h (qu.getD i 0) (by rw [List.getD_eq_getElem?_getD, List.getElem?_eq_getElem hi]; exact List.getElem_mem hi)
  exact (qok_iff _).1 this
theorem all_at {l : List Int} (h : ∀ j, j < l.length → qok (l.getD j 0) = true) : l.all qok = true := by
  rw [List.all_eq_true]
  intro x hx
  obtain ⟨j, hj, rfl⟩ := List.getElem_of_mem hx
  have := h j hj
  rwa [List.getD_eq_getElem?_getD, List.getElem?_eq_getElem hj] at this
theorem all_no {l : List Int} {j : Nat} (hj : j < l.length) (h : qok (l.getD j 0) = false) : l.all qok = false := by
  rw [List.all_eq_false]
  refine ⟨l[j], List.getElem_mem hj, ?_⟩
  rw [List.getD_eq_getElem?_getD, List.getElem?_eq_getElem hj] at h
  simpa using h
theorem plays_len (nq : Nat) (q : Nat → Int) : ∀ (l : List Feed) (s : St), (plays nq q s l).length = l.length
  | [], _ => rfl
  | x :: r, s => by simp [plays, plays_len nq q r]
end Go.Proofs.Ytedbidblnjajdaa.fr
