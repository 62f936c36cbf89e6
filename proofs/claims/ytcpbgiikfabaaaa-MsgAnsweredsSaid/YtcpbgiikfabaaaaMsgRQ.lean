/- The plain law of msg.Answered: bytes as a reply. No condition. -/
import Derived.Test.YtcpbgiikfabaaaaMsgRP
import Derived.Test.YtcpbgiikfabaaaaMsgQ
namespace Go.Proofs.Ytcpbgiikfabaaaa.mr

/-- what is read of a reply, but its names: its code and its count stand apart -/
structure St where
  r : Reply
  code : Int
  count : Int
def zeroR : Reply := ⟨0, 0, 0, 0, 0, [], []⟩
def zeroS : St := ⟨zeroR, 0, 0⟩
def setS (x : St) (s : Sel) (n : Int) (d : List UInt8) : St :=
  match s with
  | .mark => { x with r := { x.r with mark := n } } | .code => { x with code := n } | .handle => { x with r := { x.r with handle := n } } | .kind => { x with r := { x.r with kind := n } } | .size => { x with r := { x.r with size := n } }
  | .data => { x with r := { x.r with data := d } } | .count => { x with count := n }
/-- a text: its length in two bytes, and it -/
def getT (b : List UInt8) : Option (List UInt8 × List UInt8) :=
  if b.length < 2 then none else if b.length - 2 < feed.be (b.take 2) then none else some ((b.drop 2).drop (feed.be (b.take 2)), (b.drop 2).take (feed.be (b.take 2)))
def getS (s : Sel) (b : List UInt8) (x : St) : Option (List UInt8 × St) :=
  if s.isNum then (if b.length < s.wide then none else some (b.drop s.wide, setS x s (feed.be (b.take s.wide)) []))
  else match getT b with
    | none => none
    | some (b', d) => some (b', setS x s 0 d)
def takeS : List Sel → List UInt8 → St → Option (List UInt8 × St)
  | [], b, x => some (b, x)
  | s :: t, b, x => match getS s b x with
    | none => none
    | some (b', x') => takeS t b' x'
def texts : Nat → List UInt8 → List (List UInt8) → Option (List UInt8 × List (List UInt8))
  | 0, b, l => some (b, l)
  | n + 1, b, l => match getT b with
    | none => none
    | some (b', s) => texts n b' (l ++ [s])
def whole (x : St) (l : List (List UInt8)) : Reply := { x.r with code := x.code, names := l.map strOf }
def answered2 (b : List UInt8) (x : St) : Except Int Reply :=
  match texts x.count.toNat b [] with
  | none => .error 5
  | some (b2, l) => if b2 = [] ∧ fault (whole x l) = 0 then .ok (whole x l) else .error 4
def answered (b : List UInt8) : Except Int Reply :=
  match takeS all7 b zeroS with
  | none => .error 5
  | some (b1, x) => answered2 b1 x

/-! ### As the reference reads -/
open mg (Rd rnum rtext)
def rgetS (s : Sel) (st : Rd) (x : St) : Rd × St := if s.isNum then ((rnum s.wide st).1, setS x s (rnum s.wide st).2 []) else ((rtext st).1, setS x s 0 (rtext st).2)
def rtakeS : List Sel → Rd → St → Rd × St
  | [], st, x => (st, x)
  | s :: t, st, x => rtakeS t (rgetS s st x).1 (rgetS s st x).2
def rtexts : Nat → Rd → List (List UInt8) → Rd × List (List UInt8)
  | 0, st, l => (st, l)
  | n + 1, st, l => if st.short then (st, l) else rtexts n (rtext st).1 (l ++ [(rtext st).2])
def refAnswered2 (st : Rd) (x : St) : Except Int Reply :=
  if (rtexts x.count.toNat st []).1.short then .error 5 else
    if (rtexts x.count.toNat st []).1.b = [] ∧ fault (whole x (rtexts x.count.toNat st []).2) = 0 then .ok (whole x (rtexts x.count.toNat st []).2) else .error 4
def refAnswered (b : List UInt8) : Except Int Reply := refAnswered2 (rtakeS all7 ⟨b, false⟩ zeroS).1 (rtakeS all7 ⟨b, false⟩ zeroS).2

theorem rtext_short (st : Rd) (h : st.short = true) : (rtext st).1.short = true := by
  unfold rtext
  split
  · rfl
  · exact mg.rnum_short 2 _ h
theorem rgetS_short (s : Sel) (st : Rd) (x : St) (h : st.short = true) : (rgetS s st x).1.short = true := by
  unfold rgetS
  split
  · exact mg.rnum_short _ _ h
  · exact rtext_short _ h
theorem rtakeS_short : ∀ (l : List Sel) (st : Rd) (x : St), st.short = true → (rtakeS l st x).1.short = true
  | [], _, _, h => h
  | s :: t, st, x, h => rtakeS_short t _ _ (rgetS_short s st x h)
theorem rtext_none {b : List UInt8} (h : getT b = none) : (rtext ⟨b, false⟩).1.short = true := by
  unfold getT at h
  split at h
  · rename_i hl
    have e : rnum 2 ⟨b, false⟩ = (⟨[], true⟩, 0) := by unfold rnum; rw [if_pos hl]
    unfold rtext
    rw [e]
    split <;> rfl
  · rename_i hl
    have e : rnum 2 ⟨b, false⟩ = (⟨b.drop 2, false⟩, feed.be (b.take 2)) := by unfold rnum; rw [if_neg hl]
    split at h
    · rename_i h2
      unfold rtext
      rw [e, if_pos (by rw [List.length_drop]; exact h2)]
    · cases h
theorem rtext_some {b b' s : List UInt8} (h : getT b = some (b', s)) : rtext ⟨b, false⟩ = (⟨b', false⟩, s) := by
  unfold getT at h
  split at h
  · cases h
  · rename_i hl
    have e : rnum 2 ⟨b, false⟩ = (⟨b.drop 2, false⟩, feed.be (b.take 2)) := by unfold rnum; rw [if_neg hl]
    split at h
    · cases h
    · rename_i h2
      unfold rtext
      rw [e, if_neg (by rw [List.length_drop]; exact h2)]
      cases h
      rfl
theorem rgetS_none {s : Sel} {b : List UInt8} {x : St} (h : getS s b x = none) : (rgetS s ⟨b, false⟩ x).1.short = true := by
  unfold getS at h
  unfold rgetS
  split at h
  · rename_i hn
    rw [if_pos hn]
    split at h
    · rename_i hl
      show (rnum s.wide ⟨b, false⟩).1.short = true
      unfold rnum
      rw [if_pos hl]
    · cases h
  · rename_i hn
    rw [if_neg hn]
    cases hg : getT b with
    | none => exact rtext_none hg
    | some y => rw [hg] at h; cases h
theorem rgetS_some {s : Sel} {b b' : List UInt8} {x x' : St} (h : getS s b x = some (b', x')) : rgetS s ⟨b, false⟩ x = (⟨b', false⟩, x') := by
  unfold getS at h
  unfold rgetS
  split at h
  · rename_i hn
    rw [if_pos hn]
    split at h
    · cases h
    · rename_i hl
      have e : rnum s.wide ⟨b, false⟩ = (⟨b.drop s.wide, false⟩, feed.be (b.take s.wide)) := by unfold rnum; rw [if_neg hl]
      rw [e]
      cases h
      rfl
  · rename_i hn
    rw [if_neg hn]
    cases hg : getT b with
    | none => rw [hg] at h; cases h
    | some y =>
      rw [hg] at h
      obtain ⟨y1, y2⟩ := y
      rw [rtext_some hg]
      cases h
      rfl
theorem rtakeS_none : ∀ {l : List Sel} {b : List UInt8} {x : St}, takeS l b x = none → (rtakeS l ⟨b, false⟩ x).1.short = true
  | [], _, _, h => by cases h
  | s :: t, b, x, h => by
    unfold takeS at h
    cases hg : getS s b x with
    | none => exact rtakeS_short t _ _ (rgetS_none hg)
    | some y =>
      rw [hg] at h
      unfold rtakeS
      rw [rgetS_some hg]
      exact rtakeS_none h
theorem rtakeS_some : ∀ {l : List Sel} {b b' : List UInt8} {x x' : St}, takeS l b x = some (b', x') → rtakeS l ⟨b, false⟩ x = (⟨b', false⟩, x')
  | [], _, _, _, _, h => by cases h; rfl
  | s :: t, b, b', x, x', h => by
    unfold takeS at h
    cases hg : getS s b x with
    | none => rw [hg] at h; cases h
    | some y =>
      rw [hg] at h
      unfold rtakeS
      rw [rgetS_some hg]
      exact rtakeS_some h
theorem rtexts_short : ∀ (n : Nat) (st : Rd) (l : List (List UInt8)), st.short = true → (rtexts n st l).1.short = true
  | 0, _, _, h => h
  | n + 1, st, l, h => by unfold rtexts; rw [if_pos h]; exact h
theorem rtexts_none : ∀ {n : Nat} {b : List UInt8} {l : List (List UInt8)}, texts n b l = none → (rtexts n ⟨b, false⟩ l).1.short = true
  | 0, _, _, h => by cases h
  | n + 1, b, l, h => by
    unfold texts at h
    unfold rtexts
    rw [if_neg (by simp)]
    cases hg : getT b with
    | none => exact rtexts_short n _ _ (rtext_none hg)
    | some y =>
      rw [hg] at h
      obtain ⟨y1, y2⟩ := y
      rw [rtext_some hg]
      exact rtexts_none h
theorem rtexts_some : ∀ {n : Nat} {b b' : List UInt8} {l l' : List (List UInt8)}, texts n b l = some (b', l') → rtexts n ⟨b, false⟩ l = (⟨b', false⟩, l')
  | 0, _, _, _, _, h => by cases h; rfl
  | n + 1, b, b', l, l', h => by
    unfold texts at h
    unfold rtexts
    rw [if_neg (by simp)]
    cases hg : getT b with
    | none => rw [hg] at h; cases h
    | some y =>
      rw [hg] at h
      obtain ⟨y1, y2⟩ := y
      rw [rtext_some hg]
      exact rtexts_some h
theorem answered_eq (b : List UInt8) : refAnswered b = answered b := by
  unfold refAnswered answered
  cases ht : takeS all7 b zeroS with
  | none =>
    have h := rtakeS_none ht
    unfold refAnswered2
    rw [if_pos (rtexts_short _ _ _ h)]
  | some y =>
    obtain ⟨b1, x⟩ := y
    rw [rtakeS_some ht]
    unfold refAnswered2
    show _ = answered2 b1 x
    unfold answered2
    cases hx : texts x.count.toNat b1 [] with
    | none => rw [if_pos (rtexts_none hx)]
    | some z =>
      obtain ⟨b2, l⟩ := z
      rw [rtexts_some hx]
      simp
end Go.Proofs.Ytcpbgiikfabaaaa.mr
