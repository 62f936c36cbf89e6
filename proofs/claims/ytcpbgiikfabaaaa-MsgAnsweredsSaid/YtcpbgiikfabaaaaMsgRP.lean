/- The plain law of package msg: a reply as bytes. No condition. -/
import Derived.Test.YtcpbgiikfabaaaaPlay
import Derived.Test.YtcpbgiikfabaaaaBytes
import Derived.Test.YtcpbgiikfabaaaaPathP
namespace Go.Proofs.Ytcpbgiikfabaaaa.mr

/-- the parts of a reply, but its names -/
inductive Sel where
  | mark | code | handle | kind | size | data | count
deriving DecidableEq
def all7 : List Sel := [.mark, .code, .handle, .kind, .size, .data, .count]
def Sel.wide : Sel → Nat
  | .mark => 4 | .code => 1 | .handle => 4 | .kind => 1 | .size => 4 | .data => 0 | .count => 1
def Sel.isNum : Sel → Bool
  | .data => false | .mark => true | .code => true | .handle => true | .kind => true | .size => true | .count => true
def num (r : Reply) (n : Int) : Sel → Int
  | .mark => r.mark | .code => r.code | .handle => r.handle | .kind => r.kind | .size => r.size | .data => 0 | .count => n
def fit (r : Reply) (n : Int) (s : Sel) : Int :=
  if s.isNum then (if num r n s < 0 ∨ 256 ^ s.wide ≤ num r n s then 2 else 0) else if 100 < r.data.length then 1 else 0
/-- what is refused of parts, one by one: a number's fault ends it -/
def allG {α : Type} (f : α → Int) (out : Int) : List α → Int
  | [] => out
  | s :: t => if f s = 2 then 2 else allG f (if out = 0 then f s else out) t
def lists (l : List ByteArray) : List (List UInt8) := l.map (·.data.toList)
def fault (r : Reply) : Int :=
  if allG (fit r (min (r.names.length : Int) 40)) 0 all7 ≠ 0 then allG (fit r (min (r.names.length : Int) 40)) 0 all7
  else if 40 < r.names.length then 1 else if (lists r.names).all pa.name then 0 else 4
def put (r : Reply) (n : Int) (s : Sel) : List UInt8 := if s.isNum then beBytes (num r n s) s.wide else beBytes (r.data.length : Int) 2 ++ r.data
def text (s : List UInt8) : List UInt8 := beBytes (s.length : Int) 2 ++ s
def bytes (r : Reply) : List UInt8 := all7.flatMap (put r (r.names.length : Int)) ++ (lists r.names).flatMap text
def answer (r : Reply) : Except Int (List UInt8) := if fault r ≠ 0 then .error (fault r) else .ok (bytes r)

/-! ### As the reference refuses -/
def bad4 (n : Int) : Bool := !decide (0 ≤ n ∧ n ≤ 4294967295)
def refRange (r : Reply) : Bool := bad4 r.mark || decide (r.code < 0) || decide (255 < r.code) || bad4 r.handle || decide (r.kind < 0) || decide (255 < r.kind) || bad4 r.size
def refFault (r : Reply) : Int :=
  if refRange r then 2 else if (decide (100 < r.data.length) || decide (40 < r.names.length)) then 1 else if (lists r.names).all pa.name then 0 else 4
theorem allG_spec {α : Type} (f : α → Int) (hf : ∀ a, f a = 0 ∨ f a = 1 ∨ f a = 2) (l : List α) : ∀ out : Int, allG f out l = if l.any (fun s => decide (f s = 2)) = true then 2 else if out = 0 then (if l.any (fun s => decide (f s = 1)) = true then 1 else 0) else out := by
  induction l with
  | nil => intro out; by_cases h : out = 0 <;> simp [allG, h]
  | cons s t ih =>
    intro out
    unfold allG
    by_cases h2 : f s = 2
    · simp [h2]
    · rw [if_neg h2, ih]
      rcases hf s with h | h | h
      · by_cases ho : out = 0 <;> simp [h, ho]
      · by_cases ho : out = 0 <;> simp [h, ho]
      · exact absurd h h2
theorem fit_cases (r : Reply) (n : Int) (s : Sel) : fit r n s = 0 ∨ fit r n s = 1 ∨ fit r n s = 2 := by
  unfold fit
  split <;> split <;> simp
theorem fit_num2 (r : Reply) (n : Int) (s : Sel) (hs : s.isNum = true) : decide (fit r n s = 2) = (decide (num r n s < 0) || decide (256 ^ s.wide ≤ num r n s)) := by
  unfold fit
  rw [if_pos hs]
  by_cases h : num r n s < 0 ∨ 256 ^ s.wide ≤ num r n s
  · rw [if_pos h]; rcases h with h | h <;> simp [h]
  · rw [if_neg h]
    rw [decide_eq_false (fun h1 => h (.inl h1)), decide_eq_false (fun h1 => h (.inr h1))]; rfl
theorem fit_num1 (r : Reply) (n : Int) (s : Sel) (hs : s.isNum = true) : decide (fit r n s = 1) = false := by
  unfold fit
  rw [if_pos hs]
  split <;> rfl
theorem bad4_eq (n : Int) : (decide (n < 0) || decide (256 ^ 4 ≤ n)) = bad4 n := by
  unfold bad4
  rw [Bool.eq_iff_iff]
  simp
  omega
theorem one_eq (n : Int) : decide ((256 : Int) ^ 1 ≤ n) = decide (255 < n) := by
  rw [Bool.eq_iff_iff]
  simp
  omega
theorem any2 (r : Reply) (n : Int) (hn : 0 ≤ n ∧ n ≤ 40) : (all7.any fun s => decide (fit r n s = 2)) = refRange r := by
  have hd : decide (fit r n .data = 2) = false := by
    unfold fit
    rw [if_neg (by decide)]
    split <;> rfl
  have hc : decide (fit r n .count = 2) = false := by
    rw [fit_num2 r n .count rfl]
    show (decide (n < 0) || decide ((256 : Int) ^ 1 ≤ n)) = false
    rw [decide_eq_false (by omega), decide_eq_false (by omega)]; rfl
  simp only [all7, List.any_cons, List.any_nil, hd, hc, Bool.or_false]
  rw [fit_num2 r n .mark rfl, fit_num2 r n .code rfl, fit_num2 r n .handle rfl, fit_num2 r n .kind rfl, fit_num2 r n .size rfl]
  show ((decide (r.mark < 0) || decide ((256 : Int) ^ 4 ≤ r.mark)) || ((decide (r.code < 0) || decide ((256 : Int) ^ 1 ≤ r.code)) || ((decide (r.handle < 0) || decide ((256 : Int) ^ 4 ≤ r.handle)) || ((decide (r.kind < 0) || decide ((256 : Int) ^ 1 ≤ r.kind)) || (decide (r.size < 0) || decide ((256 : Int) ^ 4 ≤ r.size)))))) = _
  rw [bad4_eq, bad4_eq, bad4_eq, one_eq, one_eq]
  unfold refRange
  simp only [Bool.or_assoc]
theorem any1 (r : Reply) (n : Int) : (all7.any fun s => decide (fit r n s = 1)) = decide (100 < r.data.length) := by
  have hd : decide (fit r n .data = 1) = decide (100 < r.data.length) := by
    unfold fit
    rw [if_neg (by decide)]
    by_cases h : 100 < r.data.length <;> simp [h]
  simp only [all7, List.any_cons, List.any_nil, hd, fit_num1 r n .mark rfl, fit_num1 r n .code rfl, fit_num1 r n .handle rfl, fit_num1 r n .kind rfl, fit_num1 r n .size rfl, fit_num1 r n .count rfl, Bool.or_false, Bool.false_or]
theorem all_eq (r : Reply) (n : Int) (hn : 0 ≤ n ∧ n ≤ 40) : allG (fit r n) 0 all7 = if refRange r = true then 2 else if 100 < r.data.length then 1 else 0 := by
  rw [allG_spec _ (fit_cases r n), any2 r n hn, any1]
  simp
theorem fault_eq (r : Reply) : fault r = refFault r := by
  unfold fault refFault
  rw [all_eq r _ (by omega)]
  cases h1 : refRange r with
  | true => rfl
  | false =>
    simp only [Bool.false_eq_true, if_false]
    by_cases h2 : 100 < r.data.length
    · rw [if_pos h2, decide_eq_true h2]; rfl
    · rw [if_neg h2, decide_eq_false h2]
      rw [if_neg (by simp)]
      by_cases h3 : 40 < r.names.length
      · rw [if_pos h3, decide_eq_true h3]; rfl
      · rw [if_neg h3, decide_eq_false h3]; rfl
theorem fit_zero {r : Reply} (h : fault r = 0) : ∀ s, s ≠ .count → fit r 0 s = 0 := by
  rw [fault_eq] at h
  unfold refFault at h
  intro s hs
  by_cases h1 : refRange r = true
  · rw [if_pos h1] at h; cases h
  · rw [if_neg h1] at h
    have h2 : ¬ 100 < r.data.length := by
      intro h2
      rw [decide_eq_true h2, Bool.true_or, if_pos rfl] at h
      cases h
    have ha2 := any2 r 0 (by omega)
    have ha1 := any1 r 0
    rw [decide_eq_false h2] at ha1
    have e2 : ¬ fit r 0 s = 2 := by
      intro e
      have : (all7.any fun s => decide (fit r 0 s = 2)) = true := List.any_eq_true.2 ⟨s, by cases s <;> simp [all7], by simp [e]⟩
      rw [ha2] at this
      exact h1 this
    have e1 : ¬ fit r 0 s = 1 := by
      intro e
      have : (all7.any fun s => decide (fit r 0 s = 1)) = true := List.any_eq_true.2 ⟨s, by cases s <;> simp [all7], by simp [e]⟩
      rw [ha1] at this
      cases this
    rcases fit_cases r 0 s with h | h | h
    · exact h
    · exact absurd h e1
    · exact absurd h e2
theorem fault_parts {r : Reply} (h : fault r = 0) : r.data.length ≤ 100 ∧ r.names.length ≤ 40 ∧ (lists r.names).all pa.name = true := by
  rw [fault_eq] at h
  unfold refFault at h
  by_cases h1 : refRange r = true
  · rw [if_pos h1] at h; cases h
  · rw [if_neg h1] at h
    by_cases h2 : (decide (100 < r.data.length) || decide (40 < r.names.length)) = true
    · rw [if_pos h2] at h; cases h
    · rw [if_neg h2] at h
      rw [Bool.not_eq_true, Bool.or_eq_false_iff, decide_eq_false_iff_not, decide_eq_false_iff_not] at h2
      refine ⟨by omega, by omega, ?_⟩
      by_cases h3 : (lists r.names).all pa.name = true
      · exact h3
      · rw [if_neg h3] at h; cases h
theorem num_ok {r : Reply} (h : fault r = 0) (n : Int) (s : Sel) (hs : s.isNum = true) (hc : s ≠ .count) : 0 ≤ num r n s ∧ num r n s ≤ 9223372036854775807 := by
  have h0 := fit_zero h s hc
  unfold fit at h0
  rw [if_pos hs] at h0
  have e : num r 0 s = num r n s := by cases s <;> first | rfl | exact absurd rfl hc
  rw [e] at h0
  by_cases h2 : num r n s < 0 ∨ 256 ^ s.wide ≤ num r n s
  · rw [if_pos h2] at h0; cases h0
  · have h3 : (256 : Int) ^ s.wide ≤ 256 ^ 4 := by cases s <;> decide
    omega
end Go.Proofs.Ytcpbgiikfabaaaa.mr
