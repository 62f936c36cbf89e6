/- The plain law of package msg: a request as bytes. No condition. -/
import Derived.Test.YtcpbgiikfabaaaaPlay
import Derived.Test.YtcpbgiikfabaaaaBytes
namespace Go.Proofs.Ytcpbgiikfabaaaa.mg

/-- the fields of a request -/
inductive Sel where
  | kind | mark | path | to | how | handle | at_ | count | data
deriving DecidableEq
inductive Srt where
  | num | text | data
def Sel.wide : Sel → Nat
  | .kind => 1 | .mark => 4 | .how => 1 | .handle => 4 | .at_ => 4 | .count => 2 | .path => 0 | .to => 0 | .data => 0
def Sel.off : Sel → Nat
  | .kind => 0 | .mark => 1 | .path => 2 | .to => 3 | .how => 4 | .handle => 5 | .at_ => 6 | .count => 7 | .data => 8
def Sel.srt : Sel → Srt
  | .path => .text | .to => .text | .data => .data | .kind => .num | .mark => .num | .how => .num | .handle => .num | .at_ => .num | .count => .num
def parts (k : Int) : List Sel :=
  if k = 1 then [.path, .how] else if k = 2 then [.handle] else if k = 3 then [.handle, .at_, .count] else if k = 4 then [.handle, .at_, .data]
  else if k = 5 ∨ k = 6 ∨ k = 7 ∨ k = 8 then [.path] else if k = 9 ∨ k = 10 then [.path, .to] else []
def num (r : Request) : Sel → Int
  | .kind => r.kind | .mark => r.mark | .how => r.how | .handle => r.handle | .at_ => r.at_ | .count => r.count | .path => 0 | .to => 0 | .data => 0
def txt (r : Request) : Sel → List UInt8
  | .path => r.path.data.toList | .to => r.to.data.toList | .data => r.data
  | .kind => [] | .mark => [] | .how => [] | .handle => [] | .at_ => [] | .count => []
/-- what is refused of a field -/
def fit (r : Request) (s : Sel) : Int :=
  match s.srt with
  | .num => if num r s < 0 ∨ 256 ^ s.wide ≤ num r s then 2 else 0
  | .text => if 200 < (txt r s).length then 1 else 0
  | .data => if 100 < (txt r s).length then 1 else 0
/-- .. of fields, one by one: a number's fault ends it -/
def allTo (r : Request) (out : Int) : List Sel → Int
  | [] => out
  | s :: t => if fit r s = 2 then 2 else allTo r (if out = 0 then fit r s else out) t
def put (r : Request) (s : Sel) : List UInt8 :=
  match s.srt with
  | .num => beBytes (num r s) s.wide
  | _ => beBytes ((txt r s).length : Int) 2 ++ txt r s
def fields (r : Request) : List Sel := [.kind, .mark] ++ parts r.kind
def bytes (r : Request) : List UInt8 := (fields r).flatMap (put r)
def blank (r : Request) (s : Sel) : Bool :=
  match s.srt with
  | .num => decide (num r s = 0)
  | _ => (txt r s).isEmpty
/-- a field is taken away -/
def clear (r : Request) : Sel → Request
  | .kind => r | .mark => { r with mark := 0 } | .path => { r with path := .empty } | .to => { r with to := .empty } | .how => { r with how := 0 }
  | .handle => { r with handle := 0 } | .at_ => { r with at_ := 0 } | .count => { r with count := 0 } | .data => { r with data := [] }
def rest : List Sel := [.mark, .path, .to, .how, .handle, .at_, .count, .data]
def bare (r : Request) : Bool := rest.all (blank ((fields r).foldl clear r))
def ask (r : Request) : Except Int (List UInt8) :=
  if parts r.kind = [] then .error 3 else if bare r = false then .error 4 else if allTo r 0 (fields r) ≠ 0 then .error (allTo r 0 (fields r)) else .ok (bytes r)

/-! ### As the reference asks -/
def names (k : Int) : List Sel := parts k
def refBare (r : Request) : Bool := [Sel.path, .to, .how, .handle, .at_, .count, .data].all fun s => (parts r.kind).contains s || blank r s
def refRange (r : Request) : Bool := [Sel.mark, .handle, .at_, .how, .count].any fun s => decide (fit r s = 2)
def refSize (r : Request) : Bool := [Sel.path, .to, .data].any fun s => decide (fit r s = 1)
def refFault (r : Request) : Int := if r.kind < 1 ∨ 10 < r.kind then 3 else if refBare r = false then 4 else if refRange r = true then 2 else if refSize r = true then 1 else 0
theorem parts_nil (k : Int) : parts k = [] ↔ k < 1 ∨ 10 < k := by
  unfold parts
  constructor
  · intro h
    repeat' split at h
    all_goals first | (cases h; done) | omega
  · intro h
    repeat rw [if_neg (by omega)]
theorem kinds {k : Int} (h : ¬ (k < 1 ∨ 10 < k)) : k = 1 ∨ k = 2 ∨ k = 3 ∨ k = 4 ∨ k = 5 ∨ k = 6 ∨ k = 7 ∨ k = 8 ∨ k = 9 ∨ k = 10 := by omega
theorem bare_eq (r : Request) : bare r = refBare r := by
  by_cases h : r.kind < 1 ∨ 10 < r.kind
  · have hp := (parts_nil _).2 h
    unfold bare refBare fields
    rw [hp]
    simp [rest, clear, blank, Sel.srt, num, txt]
    try rfl
  · obtain ⟨k, m, p, t, ho, ha, at_, c, d⟩ := r
    rcases kinds h with rfl | rfl | rfl | rfl | rfl | rfl | rfl | rfl | rfl | rfl
    all_goals
      simp [bare, refBare, fields, parts, rest, clear, blank, Sel.srt, num, txt]
      try rfl
theorem fit_blank {r : Request} {s : Sel} (h : blank r s = true) : fit r s = 0 := by
  cases s <;> simp [blank, fit, Sel.srt, Sel.wide] at h ⊢ <;> simp [h]
theorem fit_cases (r : Request) (s : Sel) : fit r s = 0 ∨ fit r s = 1 ∨ fit r s = 2 := by
  unfold fit
  cases s.srt <;> dsimp only <;> split <;> simp
theorem allTo_spec (r : Request) (l : List Sel) : ∀ out : Int, allTo r out l = if l.any (fun s => decide (fit r s = 2)) = true then 2 else if out = 0 then (if l.any (fun s => decide (fit r s = 1)) = true then 1 else 0) else out := by
  induction l with
  | nil => intro out; by_cases h : out = 0 <;> simp [allTo, h]
  | cons s t ih =>
    intro out
    unfold allTo
    by_cases h2 : fit r s = 2
    · simp [h2]
    · rw [if_neg h2, ih]
      rcases fit_cases r s with h | h | h
      · by_cases ho : out = 0 <;> simp [h, ho]
      · by_cases ho : out = 0 <;> simp [h, ho]
      · exact absurd h h2
theorem mem_fields (r : Request) (s : Sel) : s ∈ fields r ↔ s = .kind ∨ s = .mark ∨ s ∈ parts r.kind := by simp [fields, or_assoc]
theorem parts_num {k : Int} {s : Sel} (h : s ∈ parts k) : s ≠ .kind ∧ s ≠ .mark := by
  unfold parts at h
  repeat' split at h
  all_goals (simp at h; try (rcases h with rfl | rfl | rfl <;> simp); try (rcases h with rfl | rfl <;> simp); try (subst h; simp))
theorem all_eq {r : Request} (hk : ¬ (r.kind < 1 ∨ 10 < r.kind)) (hb : refBare r = true) : allTo r 0 (fields r) = if refRange r = true then 2 else if refSize r = true then 1 else 0 := by
  have hkf : fit r .kind = 0 := by
    show (if r.kind < 0 ∨ 256 ^ 1 ≤ r.kind then (2 : Int) else 0) = 0
    rw [if_neg (by omega)]
  have hin : ∀ s, s = .path ∨ s = .to ∨ s = .how ∨ s = .handle ∨ s = .at_ ∨ s = .count ∨ s = .data → fit r s ≠ 0 → s ∈ parts r.kind := fun s hs hf => by
    have h := List.all_eq_true.1 hb s (by rcases hs with rfl | rfl | rfl | rfl | rfl | rfl | rfl <;> simp)
    rw [Bool.or_eq_true] at h
    rcases h with h | h
    · simpa using h
    · exact absurd (fit_blank h) hf
  have h2 : ((fields r).any fun s => decide (fit r s = 2)) = refRange r := by
    rw [Bool.eq_iff_iff]
    unfold refRange
    simp only [List.any_eq_true, decide_eq_true_eq]
    constructor
    · rintro ⟨s, hs, hf⟩
      refine ⟨s, ?_, hf⟩
      cases s with
      | kind => rw [hkf] at hf; cases hf
      | path => exact absurd hf (by simp only [fit, Sel.srt]; split <;> simp)
      | to => exact absurd hf (by simp only [fit, Sel.srt]; split <;> simp)
      | data => exact absurd hf (by simp only [fit, Sel.srt]; split <;> simp)
      | mark => simp
      | how => simp
      | handle => simp
      | at_ => simp
      | count => simp
    · rintro ⟨s, hs, hf⟩
      refine ⟨s, ?_, hf⟩
      rw [mem_fields]
      by_cases hm : s = .mark
      · exact .inr (.inl hm)
      · refine .inr (.inr (hin s ?_ (by omega)))
        cases s <;> simp_all
  have h1 : ((fields r).any fun s => decide (fit r s = 1)) = refSize r := by
    rw [Bool.eq_iff_iff]
    unfold refSize
    simp only [List.any_eq_true, decide_eq_true_eq]
    constructor
    · rintro ⟨s, hs, hf⟩
      refine ⟨s, ?_, hf⟩
      cases s with
      | path => simp
      | to => simp
      | data => simp
      | kind => exact absurd hf (by simp only [fit, Sel.srt]; split <;> simp)
      | mark => exact absurd hf (by simp only [fit, Sel.srt]; split <;> simp)
      | how => exact absurd hf (by simp only [fit, Sel.srt]; split <;> simp)
      | handle => exact absurd hf (by simp only [fit, Sel.srt]; split <;> simp)
      | at_ => exact absurd hf (by simp only [fit, Sel.srt]; split <;> simp)
      | count => exact absurd hf (by simp only [fit, Sel.srt]; split <;> simp)
    · rintro ⟨s, hs, hf⟩
      refine ⟨s, ?_, hf⟩
      rw [mem_fields]
      refine .inr (.inr (hin s ?_ (by omega)))
      cases s <;> simp_all
  rw [allTo_spec, h2, h1]
  rfl
theorem ask_eq (r : Request) : ask r = if refFault r = 0 then .ok (bytes r) else .error (refFault r) := by
  unfold ask refFault
  by_cases hk : r.kind < 1 ∨ 10 < r.kind
  · rw [if_pos ((parts_nil _).2 hk), if_pos hk]
    rfl
  · rw [if_neg (fun h => hk ((parts_nil _).1 h)), if_neg hk, bare_eq]
    cases hb : refBare r with
    | false => rfl
    | true =>
      simp only [Bool.true_eq_false, if_false]
      rw [all_eq hk hb]
      cases refRange r <;> cases refSize r <;> rfl
end Go.Proofs.Ytcpbgiikfabaaaa.mg
