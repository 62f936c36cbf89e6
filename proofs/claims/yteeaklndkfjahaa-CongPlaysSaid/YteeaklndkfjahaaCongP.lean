/- The plain law of package cong: what a window becomes, signal by signal. No program in sight. No condition. -/
import Derived.Test.YteeaklndkfjahaaTypes
namespace Go.Proofs.Yteeaklndkfjahaa.cng

def z : Signal := ⟨0, 0⟩
def ack (s : Width) : Width :=
  if s.window < s.slow then ⟨min (s.window + 1) 64, s.slow, s.again⟩ else if s.window ≤ s.again + 1 then ⟨min (s.window + 1) 64, s.slow, 0⟩ else ⟨s.window, s.slow, s.again + 1⟩
def ackN : Nat → Width → Width
  | 0, s => s
  | n + 1, s => ack (ackN n s)
def lost (late : Bool) (s : Width) : Width := ⟨if late then 1 else max (s.window / 2) 2, max (s.window / 2) 2, 0⟩
def Good (s : Width) : Prop := (1 ≤ s.window ∧ s.window ≤ 64) ∧ (2 ≤ s.slow ∧ s.slow ≤ 64) ∧ (0 ≤ s.again ∧ s.again < s.window)
theorem good_ack {s : Width} (h : Good s) : Good (ack s) := by
  unfold Good ack at *
  split
  · dsimp only; omega
  · split <;> dsimp only <;> omega
theorem good_ackN {s : Width} (h : Good s) : ∀ n, Good (ackN n s)
  | 0 => h
  | n + 1 => good_ack (good_ackN h n)
theorem ack_slow (s : Width) : (ack s).slow = s.slow := by
  unfold ack
  split
  · rfl
  · split <;> rfl
theorem ackN_slow (s : Width) : ∀ n, (ackN n s).slow = s.slow
  | 0 => rfl
  | n + 1 => by rw [ackN, ack_slow, ackN_slow s n]
theorem good_lost {s : Width} (h : Good s) (late : Bool) : Good (lost late s) := by
  unfold Good lost at *
  cases late <;> simp <;> omega

def knd (l : List Signal) (i : Nat) : Int := (l.getD i z).kind
def cnt (l : List Signal) (i : Nat) : Int := (l.getD i z).count
def OkSig (l : List Signal) (i : Nat) : Prop := (knd l i = 1 ∧ 1 ≤ cnt l i ∧ cnt l i ≤ 64) ∨ knd l i = 2 ∨ knd l i = 3
def Valid (l : List Signal) (n : Nat) : Prop := ∀ i, i < n → OkSig l i
def step (k c : Int) (s : Width) : Width := if k = 1 then ackN c.toNat s else lost (decide (k = 3)) s
def stTo (l : List Signal) : Nat → Width
  | 0 => ⟨1, 64, 0⟩
  | i + 1 => step (knd l i) (cnt l i) (stTo l i)
theorem good_stTo (l : List Signal) : ∀ n, Good (stTo l n)
  | 0 => by unfold Good stTo; dsimp only; omega
  | n + 1 => by
    unfold stTo step
    split
    · exact good_ackN (good_stTo l n) _
    · exact good_lost (good_stTo l n) _
def outTo (l : List Signal) : Nat → List Width
  | 0 => []
  | i + 1 => outTo l i ++ [stTo l (i + 1)]
theorem outTo_length (l : List Signal) (k : Nat) : (outTo l k).length = k := by
  induction k with
  | zero => rfl
  | succ k ih => simp [outTo, ih]
/-- what becomes of the list -/
inductive Verdict (l : List Signal) (m : Nat) : Prop where
  | well (h : m = l.length)
  | range (h : m < l.length) (h1 : knd l m = 1) (h2 : cnt l m < 1 ∨ 64 < cnt l m)
  | kind (h : m < l.length) (h1 : knd l m < 1 ∨ 3 < knd l m)
theorem verdict_of (l : List Signal) : ∃ m, m ≤ l.length ∧ Valid l m ∧ Verdict l m := by
  have key : ∀ n, n ≤ l.length → Valid l n ∨ ∃ m, m < n ∧ Valid l m ∧ ¬ OkSig l m := by
    intro n
    induction n with
    | zero => intro _; exact .inl (fun i hi => absurd hi (Nat.not_lt_zero i))
    | succ n ih =>
      intro hn
      rcases ih (by omega) with h | ⟨m, hm, h⟩
      · by_cases ho : OkSig l n
        · refine .inl (fun i hi => ?_)
          rcases Nat.lt_or_ge i n with h' | h'
          · exact h i h'
          · obtain rfl : i = n := by omega
            exact ho
        · exact .inr ⟨n, by omega, h, ho⟩
      · exact .inr ⟨m, by omega, h⟩
  rcases key l.length (Nat.le_refl _) with h | ⟨m, hm, h, ho⟩
  · exact ⟨_, Nat.le_refl _, h, .well rfl⟩
  · refine ⟨m, by omega, h, ?_⟩
    unfold OkSig at ho
    by_cases h1 : knd l m = 1
    · exact .range hm h1 (by omega)
    · exact .kind hm (by omega)
end Go.Proofs.Yteeaklndkfjahaa.cng
