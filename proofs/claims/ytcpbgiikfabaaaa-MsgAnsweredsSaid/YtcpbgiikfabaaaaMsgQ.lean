/- The plain law of msg.Asked: bytes as a request. No condition. -/
import Derived.Test.YtcpbgiikfabaaaaMsgP
import Derived.Test.YtcpbgiikfabaaaaFeedP
import Derived.Test.YtcpbgiikfabaaaaStrS
namespace Go.Proofs.Ytcpbgiikfabaaaa.mg

def zeroR : Request := ⟨0, 0, .empty, .empty, 0, 0, 0, 0, []⟩
/-- a field is setR: a number, or bytes -/
def setR (r : Request) (s : Sel) (n : Int) (x : List UInt8) : Request :=
  match s with
  | .kind => { r with kind := n } | .mark => { r with mark := n } | .how => { r with how := n } | .handle => { r with handle := n } | .at_ => { r with at_ := n } | .count => { r with count := n }
  | .path => { r with path := strOf x } | .to => { r with to := strOf x } | .data => { r with data := x }
def isNum (s : Sel) : Bool := match s.srt with | .num => true | _ => false
def getR (s : Sel) (b : List UInt8) (r : Request) : Option (List UInt8 × Request) :=
  if isNum s then (if b.length < s.wide then none else some (b.drop s.wide, setR r s (feed.be (b.take s.wide)) []))
  else if b.length < 2 then none else if b.length - 2 < feed.be (b.take 2) then none else some ((b.drop 2).drop (feed.be (b.take 2)), setR r s 0 ((b.drop 2).take (feed.be (b.take 2))))
def takeR : List Sel → List UInt8 → Request → Option (List UInt8 × Request)
  | [], b, r => some (b, r)
  | s :: t, b, r => match getR s b r with
    | none => none
    | some (b', r') => takeR t b' r'
def asked2 (b1 : List UInt8) (r1 : Request) : Except Int Request :=
  if parts r1.kind = [] then .error 3 else match takeR (parts r1.kind) b1 r1 with
    | none => .error 5
    | some (b2, r2) => if b2 = [] ∧ allTo r2 0 (parts r1.kind) = 0 then .ok r2 else .error 4
def asked (b : List UInt8) : Except Int Request :=
  match takeR [.kind, .mark] b zeroR with
  | none => .error 5
  | some (b1, r1) => asked2 b1 r1

/-! ### As the reference reads -/
structure Rd where
  b : List UInt8
  short : Bool
def rnum (wide : Nat) (st : Rd) : Rd × Nat := if st.b.length < wide then (⟨[], true⟩, 0) else (⟨st.b.drop wide, st.short⟩, feed.be (st.b.take wide))
def rtext (st : Rd) : Rd × List UInt8 :=
  if (rnum 2 st).1.b.length < (rnum 2 st).2 then (⟨[], true⟩, []) else (⟨(rnum 2 st).1.b.drop (rnum 2 st).2, (rnum 2 st).1.short⟩, (rnum 2 st).1.b.take (rnum 2 st).2)
def rget (s : Sel) (st : Rd) (r : Request) : Rd × Request :=
  if isNum s then ((rnum s.wide st).1, setR r s (rnum s.wide st).2 []) else ((rtext st).1, setR r s 0 (rtext st).2)
def rtake : List Sel → Rd → Request → Rd × Request
  | [], st, r => (st, r)
  | s :: t, st, r => rtake t (rget s st r).1 (rget s st r).2
def refAsked2 (st : Rd) (r1 : Request) : Except Int Request :=
  if st.short then .error 5 else if r1.kind < 1 ∨ 10 < r1.kind then .error 3 else
    if (rtake (parts r1.kind) st r1).1.short then .error 5 else if (rtake (parts r1.kind) st r1).1.b = [] ∧ refFault (rtake (parts r1.kind) st r1).2 = 0 then .ok (rtake (parts r1.kind) st r1).2 else .error 4
def refAsked (b : List UInt8) : Except Int Request := refAsked2 (rnum 4 (rnum 1 ⟨b, false⟩).1).1 { zeroR with kind := (rnum 1 ⟨b, false⟩).2, mark := (rnum 4 (rnum 1 ⟨b, false⟩).1).2 }

theorem rnum_short (wide : Nat) (st : Rd) (h : st.short = true) : (rnum wide st).1.short = true := by
  unfold rnum
  split
  · rfl
  · exact h
theorem rget_short (s : Sel) (st : Rd) (r : Request) (h : st.short = true) : (rget s st r).1.short = true := by
  unfold rget
  split
  · exact rnum_short _ _ h
  · show (rtext st).1.short = true
    unfold rtext
    split
    · rfl
    · exact rnum_short 2 _ h
theorem rtake_short : ∀ (l : List Sel) (st : Rd) (r : Request), st.short = true → (rtake l st r).1.short = true
  | [], _, _, h => h
  | s :: t, st, r, h => rtake_short t _ _ (rget_short s st r h)
theorem rget_none {s : Sel} {b : List UInt8} {r : Request} (h : getR s b r = none) : (rget s ⟨b, false⟩ r).1.short = true := by
  unfold getR at h
  unfold rget
  split at h
  · rename_i hn
    rw [if_pos hn]
    split at h
    · rename_i hl
      show (rnum s.wide ⟨b, false⟩).1.short = true
      unfold rnum
      rw [if_pos hl]
    · cases h
  · rename_i hn
    rw [if_neg hn]
    show (rtext ⟨b, false⟩).1.short = true
    split at h
    · rename_i hl
      have e : rnum 2 ⟨b, false⟩ = (⟨[], true⟩, 0) := by unfold rnum; rw [if_pos hl]
      unfold rtext
      rw [e]
      split <;> rfl
    · rename_i hl
      have e : rnum 2 ⟨b, false⟩ = (⟨b.drop 2, false⟩, feed.be (b.take 2)) := by unfold rnum; rw [if_neg hl]
      split at h
      · rename_i h2
        unfold rtext
        rw [e, if_pos (by rw [List.length_drop]; exact h2)]
      · cases h
theorem rget_some {s : Sel} {b b' : List UInt8} {r r' : Request} (h : getR s b r = some (b', r')) : rget s ⟨b, false⟩ r = (⟨b', false⟩, r') := by
  unfold getR at h
  unfold rget
  split at h
  · rename_i hn
    rw [if_pos hn]
    split at h
    · cases h
    · rename_i hl
      have e : rnum s.wide ⟨b, false⟩ = (⟨b.drop s.wide, false⟩, feed.be (b.take s.wide)) := by unfold rnum; rw [if_neg hl]
      rw [e]
      cases h
      rfl
  · rename_i hn
    rw [if_neg hn]
    split at h
    · cases h
    · rename_i hl
      have e : rnum 2 ⟨b, false⟩ = (⟨b.drop 2, false⟩, feed.be (b.take 2)) := by unfold rnum; rw [if_neg hl]
      split at h
      · cases h
      · rename_i h2
        have e2 : rtext ⟨b, false⟩ = (⟨(b.drop 2).drop (feed.be (b.take 2)), false⟩, (b.drop 2).take (feed.be (b.take 2))) := by
          unfold rtext
          rw [e, if_neg (by rw [List.length_drop]; exact h2)]
        rw [e2]
        cases h
        rfl
theorem rtake_none : ∀ {l : List Sel} {b : List UInt8} {r : Request}, takeR l b r = none → (rtake l ⟨b, false⟩ r).1.short = true
  | [], _, _, h => by cases h
  | s :: t, b, r, h => by
    unfold takeR at h
    cases hg : getR s b r with
    | none => exact rtake_short t _ _ (rget_none hg)
    | some x =>
      rw [hg] at h
      unfold rtake
      rw [rget_some hg]
      exact rtake_none h
theorem rtake_some : ∀ {l : List Sel} {b b' : List UInt8} {r r' : Request}, takeR l b r = some (b', r') → rtake l ⟨b, false⟩ r = (⟨b', false⟩, r')
  | [], _, _, _, _, h => by cases h; rfl
  | s :: t, b, b', r, r', h => by
    unfold takeR at h
    cases hg : getR s b r with
    | none => rw [hg] at h; cases h
    | some x =>
      rw [hg] at h
      unfold rtake
      rw [rget_some hg]
      exact rtake_some h
theorem setR_other (r : Request) (s t : Sel) (n : Int) (x : List UInt8) (h : t ≠ s) : num (setR r s n x) t = num r t ∧ txt (setR r s n x) t = txt r t := by
  cases s <;> cases t <;> first | exact absurd rfl h | exact ⟨rfl, rfl⟩
theorem getR_other {s t : Sel} {b b' : List UInt8} {r r' : Request} (h : getR s b r = some (b', r')) (ht : t ≠ s) : num r' t = num r t ∧ txt r' t = txt r t := by
  unfold getR at h
  split at h
  · split at h
    · cases h
    · cases h; exact setR_other _ _ _ _ _ ht
  · split at h
    · cases h
    · split at h
      · cases h
      · cases h; exact setR_other _ _ _ _ _ ht
theorem takeR_other : ∀ {l : List Sel} {t : Sel} {b b' : List UInt8} {r r' : Request}, takeR l b r = some (b', r') → t ∉ l → num r' t = num r t ∧ txt r' t = txt r t
  | [], _, _, _, _, _, h, _ => by cases h; exact ⟨rfl, rfl⟩
  | s :: l, t, b, b', r, r', h, ht => by
    unfold takeR at h
    cases hg : getR s b r with
    | none => rw [hg] at h; cases h
    | some x =>
      rw [hg] at h
      have h1 := getR_other (t := t) hg (fun e => ht (by simp [e]))
      have h2 := takeR_other (t := t) h (fun e => ht (by simp [e]))
      exact ⟨h2.1.trans h1.1, h2.2.trans h1.2⟩
theorem fit_other {r r' : Request} {t : Sel} (h : num r' t = num r t ∧ txt r' t = txt r t) : fit r' t = fit r t := by unfold fit; rw [h.1, h.2]
theorem blank_other {r r' : Request} {t : Sel} (h : num r' t = num r t ∧ txt r' t = txt r t) : blank r' t = blank r t := by unfold blank; rw [h.1, h.2]
theorem fault_take {b1 b2 : List UInt8} {r1 r2 : Request} (hk : ¬ (r1.kind < 1 ∨ 10 < r1.kind)) (hz : ∀ s : Sel, s ≠ .kind → s ≠ .mark → blank r1 s = true) (hm : fit r1 .mark = 0) (h : takeR (parts r1.kind) b1 r1 = some (b2, r2)) :
    refFault r2 = allTo r2 0 (parts r1.kind) := by
  have hkind : r2.kind = r1.kind := (takeR_other (t := .kind) h (fun e => (parts_num e).1 rfl)).1
  have hk2 : ¬ (r2.kind < 1 ∨ 10 < r2.kind) := by rw [hkind]; exact hk
  have hmark : fit r2 .mark = 0 := (fit_other (takeR_other (t := .mark) h (fun e => (parts_num e).2 rfl))).trans hm
  have hkf : fit r2 .kind = 0 := by
    show (if r2.kind < 0 ∨ 256 ^ 1 ≤ r2.kind then (2 : Int) else 0) = 0
    rw [if_neg (by omega)]
  have hb : refBare r2 = true := by
    unfold refBare
    rw [List.all_eq_true]
    intro s hs
    by_cases hin : s ∈ parts r2.kind
    · simp [hin]
    · have hn : s ≠ .kind ∧ s ≠ .mark := by
        simp at hs
        rcases hs with rfl | rfl | rfl | rfl | rfl | rfl | rfl <;> exact ⟨by decide, by decide⟩
      rw [blank_other (takeR_other (t := s) h (by rw [← hkind]; exact hin)), hz s hn.1 hn.2, Bool.or_true]
  have h1 : refFault r2 = allTo r2 0 (fields r2) := by
    rw [all_eq hk2 hb]
    unfold refFault
    rw [if_neg hk2, if_neg (by rw [hb]; decide)]
  rw [h1]
  unfold fields
  rw [hkind]
  show allTo r2 0 (.kind :: .mark :: parts r1.kind) = _
  simp only [allTo, hkf, hmark]
  rfl
theorem be_two (b : List UInt8) (k : Nat) : ((feed.be (b.take k) : Nat) : Int) < ((256 ^ k : Nat) : Int) := by have := feed.be_lt b k; omega
theorem asked_eq (b : List UInt8) : refAsked b = asked b := by
  unfold asked refAsked
  by_cases h1 : b.length < 1
  · have e0 : getR .kind b zeroR = none := by unfold getR; rw [if_pos (show isNum .kind = true from rfl), if_pos (by exact h1)]
    have e1 : takeR [.kind, .mark] b zeroR = none := by unfold takeR; rw [e0]
    rw [e1]
    have e2 : rnum 1 ⟨b, false⟩ = (⟨[], true⟩, 0) := by unfold rnum; rw [if_pos h1]
    rw [e2]
    unfold refAsked2
    rw [if_pos (rnum_short 4 _ rfl)]
  · have e0 : getR .kind b zeroR = some (b.drop 1, setR zeroR .kind (feed.be (b.take 1)) []) := by unfold getR; rw [if_pos (show isNum .kind = true from rfl), if_neg (by exact h1)]; rfl
    have e2 : rnum 1 ⟨b, false⟩ = (⟨b.drop 1, false⟩, feed.be (b.take 1)) := by unfold rnum; rw [if_neg h1]
    rw [e2]
    by_cases h4 : (b.drop 1).length < 4
    · have e3 : getR .mark (b.drop 1) (setR zeroR .kind (feed.be (b.take 1)) []) = none := by unfold getR; rw [if_pos (show isNum .mark = true from rfl), if_pos (by exact h4)]
      have e1 : takeR [.kind, .mark] b zeroR = none := by simp only [takeR, e0, e3]
      rw [e1]
      have e5 : rnum 4 ⟨b.drop 1, false⟩ = (⟨[], true⟩, 0) := by unfold rnum; rw [if_pos h4]
      rw [e5]
      rfl
    · have e3 : getR .mark (b.drop 1) (setR zeroR .kind (feed.be (b.take 1)) []) = some ((b.drop 1).drop 4, setR (setR zeroR .kind (feed.be (b.take 1)) []) .mark (feed.be ((b.drop 1).take 4)) []) := by unfold getR; rw [if_pos (show isNum .mark = true from rfl), if_neg (by exact h4)]; rfl
      have e1 : takeR [.kind, .mark] b zeroR = some ((b.drop 1).drop 4, setR (setR zeroR .kind (feed.be (b.take 1)) []) .mark (feed.be ((b.drop 1).take 4)) []) := by simp only [takeR, e0, e3]
      rw [e1]
      have e5 : rnum 4 ⟨b.drop 1, false⟩ = (⟨(b.drop 1).drop 4, false⟩, feed.be ((b.drop 1).take 4)) := by unfold rnum; rw [if_neg h4]
      rw [e5]
      show refAsked2 ⟨(b.drop 1).drop 4, false⟩ (setR (setR zeroR .kind (feed.be (b.take 1)) []) .mark (feed.be ((b.drop 1).take 4)) []) = asked2 ((b.drop 1).drop 4) (setR (setR zeroR .kind (feed.be (b.take 1)) []) .mark (feed.be ((b.drop 1).take 4)) [])
      have hz : ∀ s : Sel, s ≠ .kind → s ≠ .mark → blank (setR (setR zeroR .kind (feed.be (b.take 1)) []) .mark (feed.be ((b.drop 1).take 4)) []) s = true := fun s h1 h2 => by
        cases s <;> first | exact absurd rfl h1 | exact absurd rfl h2 | rfl
      have hm : fit (setR (setR zeroR .kind (feed.be (b.take 1)) []) .mark (feed.be ((b.drop 1).take 4)) []) .mark = 0 := by
        have := be_two (b.drop 1) 4
        show (if ((feed.be ((b.drop 1).take 4) : Nat) : Int) < 0 ∨ 256 ^ 4 ≤ ((feed.be ((b.drop 1).take 4) : Nat) : Int) then (2 : Int) else 0) = 0
        rw [if_neg (by omega)]
      generalize setR (setR zeroR .kind (feed.be (b.take 1)) []) .mark (feed.be ((b.drop 1).take 4)) [] = r1 at *
      generalize (b.drop 1).drop 4 = b1 at *
      unfold refAsked2 asked2
      rw [if_neg (by simp)]
      by_cases hk : r1.kind < 1 ∨ 10 < r1.kind
      · rw [if_pos hk, if_pos ((parts_nil _).2 hk)]
      · rw [if_neg hk, if_neg (fun h => hk ((parts_nil _).1 h))]
        cases ht : takeR (parts r1.kind) b1 r1 with
        | none => rw [if_pos (rtake_none ht)]
        | some x =>
          obtain ⟨b2, r2⟩ := x
          rw [rtake_some ht, fault_take hk hz hm ht]
          simp
end Go.Proofs.Ytcpbgiikfabaaaa.mg
