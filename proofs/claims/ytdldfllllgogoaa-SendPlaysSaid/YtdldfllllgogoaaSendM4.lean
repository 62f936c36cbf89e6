/- Texts in one: SendP, SendP2, RecvP2, RowOf, Blk, Del, Stay, BlkA, Recv1, Recv2, Appz, Coll, Anew. No condition. -/
import Derived.Test.YtdldfllllgogoaaSendM3
import Derived.Test.YtdldfllllgogoaaSendM2
import Derived.Lib.SliceRun
import Derived.Laws.IdiomCopy
import Derived.RegionTactic
import Derived.BigRegion
import Derived.Deep.RegionLaw
import Derived.Deep.CutBlock
import Derived.Test.YtdldfllllgogoaaSendM1
import Derived.Lib.AppendZerosOnto
import Derived.Laws.CopyOwn
namespace Go.Proofs.Ytdldfllllgogoaa.sd
open had

/-- who sends -/
structure St where
  data : List UInt8
  closed : Bool
  done : Int
  more : List Rng
  next : Int
  again : Int
  edge : Int
def start (window : Int) : St := ⟨[], false, 0, [], 0, 0, window⟩
def fin1 (b : Bool) : Int := if b = true then 1 else 0
def endOf (s : St) : Int := s.data.length + fin1 s.closed
def total (l : List Rng) : Int := (l.map fun r => r.hi - r.lo).sum
def leftOf (s : St) : Int := endOf s - s.done - total s.more
def heardP (s : St) (n : Int) : Prop := (0 ≤ n ∧ n < s.done) ∨ cov s.more n
/-- the first place from f on that no range covers -/
def firstFrom (l : List Rng) (f : Int) : Int := l.foldl (fun f r => if r.lo ≤ f ∧ f < r.hi then r.hi else f) f
def first (s : St) (f t : Int) : Int := min (firstFrom s.more (max f s.done)) t
/-- the first range behind a place begins here -/
def ahead (l : List Rng) (at_ t : Int) : Int := l.foldr (fun r t => if at_ < r.lo then r.lo else t) t
def piece (s : St) (f t : Int) : Sent :=
  let n := min (min t s.data.length) (f + 64)
  ⟨0, f, (s.data.drop f.toNat).take (n - f).toNat, decide (n = s.data.length ∧ n < t), false, false, 0⟩
def after (p : Sent) : Int := p.from_ + p.data.length + fin1 p.fin
def poll (s : St) : Sent × St :=
  let at_ := first s s.again s.next
  if at_ < s.next then
    let p := piece s at_ (ahead s.more at_ s.next)
    ({ p with again := true }, { s with again := after p })
  else
    let t := min (endOf s) s.edge
    if t ≤ s.next then (⟨0, 0, [], false, false, true, 0⟩, s)
    else
      let p := piece s s.next t
      (p, { s with next := after p, again := after p })
def timeout (s : St) : St := { s with again := s.done, edge := if first s s.done s.next = s.next ∧ s.next < endOf s ∧ s.edge ≤ s.next then s.next + 1 else s.edge }
def odd (next : Int) (r : Rng) : Prop := r.lo < 0 ∨ r.hi ≤ r.lo ∨ next < r.hi
instance (next : Int) (r : Rng) : Decidable (odd next r) := by unfold odd; infer_instance
def adds (done : Int) (more : List Rng) : List Rng → Except Int (Int × List Rng)
  | [] => .ok (done, more)
  | r :: l => if 16 < (addTo done more r).2.length then .error 9 else adds (addTo done more r).1 (addTo done more r).2 l
def heard (s : St) (d : Deed) : Int × St :=
  if d.ack < 0 ∨ s.next < d.ack ∨ d.window < 0 ∨ 65535 < d.window then (2, s)
  else if 3 < d.sacks.length then (1, s)
  else if ∃ r, r ∈ d.sacks ∧ odd s.next r then (2, s)
  else match adds s.done s.more (⟨0, d.ack⟩ :: d.sacks) with
    | .error e => (e, s)
    | .ok (dn, mo) => (0, { s with done := dn, more := mo, edge := max s.edge (d.ack + d.window) })
def submit (s : St) (b : List UInt8) : Int × St :=
  if s.closed = true then (10, s) else if 4096 < b.length then (1, s) else if 1048576 ≤ s.data.length + b.length then (9, s) else (0, { s with data := s.data ++ b })
def coded (c : Int) : Sent := ⟨c, 0, [], false, false, false, 0⟩
def step (s : St) (d : Deed) : Sent × St :=
  if d.kind = 1 then (coded (submit s d.data).1, (submit s d.data).2)
  else if d.kind = 5 then (if s.closed = true then (coded 10, s) else (coded 0, { s with closed := true }))
  else if d.kind = 2 then (coded (heard s d).1, (heard s d).2)
  else if d.kind = 4 then (coded 0, timeout s)
  else if d.kind = 3 then poll s
  else (coded 3, s)
def doIt (s : St) (d : Deed) : Sent × St := ({ (step s d).1 with left := leftOf (step s d).2 }, (step s d).2)
/-- so many deeds done -/
def afterAll (window : Int) (l : List Deed) : Nat → List Sent × St
  | 0 => ([], start window)
  | k + 1 => match l[k]? with
    | some a => ((afterAll window l k).1 ++ [(doIt (afterAll window l k).2 a).1], (doIt (afterAll window l k).2 a).2)
    | none => afterAll window l k
def play (window : Int) (l : List Deed) : Except Int (List Sent) := if window < 0 ∨ 65535 < window then .error 2 else if 300 < l.length then .error 1 else .ok (afterAll window l l.length).1

/-- what holds of it -/
structure Inv (s : St) : Prop where
  lo : 0 ≤ s.done ∧ s.done ≤ s.next ∧ s.next ≤ endOf s
  canon : Canon s.done s.more
  few : s.more.length ≤ 16
  hi : ∀ r, r ∈ s.more → r.hi ≤ s.next
  size : s.data.length ≤ 1048575
  again : 0 ≤ s.again ∧ s.again ≤ s.next
  edge : 0 ≤ s.edge ∧ s.edge ≤ 1200000
theorem fin1_le (b : Bool) : 0 ≤ fin1 b ∧ fin1 b ≤ 1 := by cases b <;> decide
theorem Inv.end_ {s : St} (h : Inv s) : endOf s ≤ 1048576 := by have := h.size; have := fin1_le s.closed; unfold endOf; omega
theorem Inv.may {s : St} (h : Inv s) : HoleMay s.done s.more := rv.may_of h.canon h.lo.1 (by have := h.lo; have := h.end_; omega) h.few fun r hr => by have := h.hi r hr; have := h.lo; have := h.end_; omega
theorem Inv.start {w : Int} (h0 : 0 ≤ w) (h1 : w ≤ 65535) : Inv (start w) := ⟨⟨Int.le_refl _, Int.le_refl _, Int.le_refl _⟩, trivial, Nat.zero_le _, fun r hr => (by cases hr), Nat.zero_le _, ⟨Int.le_refl _, Int.le_refl _⟩, by show 0 ≤ w ∧ w ≤ 1200000; omega⟩

/-! ### The first place not heard of, and the first that is behind it -/
theorem firstFrom_ok : ∀ {l : List Rng} {a f : Int}, Canon a l → f ≤ firstFrom l f ∧ ¬ cov l (firstFrom l f) ∧ ∀ x, f ≤ x → x < firstFrom l f → cov l x
  | [], a, f, _ => ⟨Int.le_refl _, cov_nil _, fun x h1 h2 => by have h3 : x < f := h2; omega⟩
  | r :: l, a, f, h => by
    have hr := h.1
    have hr2 := h.2.1
    show f ≤ firstFrom l (if r.lo ≤ f ∧ f < r.hi then r.hi else f) ∧ ¬ cov (r :: l) (firstFrom l (if r.lo ≤ f ∧ f < r.hi then r.hi else f)) ∧ ∀ x, f ≤ x → x < firstFrom l (if r.lo ≤ f ∧ f < r.hi then r.hi else f) → cov (r :: l) x
    by_cases c : r.lo ≤ f ∧ f < r.hi
    · rw [if_pos c]
      obtain ⟨h1, h2, h3⟩ := firstFrom_ok (f := r.hi) h.2.2
      refine ⟨by omega, ?_, fun x hx1 hx2 => ?_⟩
      · rw [cov_cons]
        rintro (e | e)
        · have := e.2; omega
        · exact h2 e
      · rw [cov_cons]
        by_cases hx : x < r.hi
        · exact .inl ⟨by omega, hx⟩
        · exact .inr (h3 x (by omega) hx2)
    · rw [if_neg c]
      obtain ⟨h1, h2, h3⟩ := firstFrom_ok (f := f) h.2.2
      refine ⟨h1, ?_, fun x hx1 hx2 => by rw [cov_cons]; exact .inr (h3 x hx1 hx2)⟩
      rw [cov_cons]
      rintro (e | e)
      · have e1 := e.1
        have e2 := e.2
        by_cases hf : f < r.lo
        · obtain ⟨q, hq, hin⟩ := h3 f (Int.le_refl _) (by omega)
          have := (h.2.2.mem q hq).1
          have := hin.1
          omega
        · omega
      · exact h2 e
theorem firstFrom_le : ∀ {l : List Rng} {f t : Int}, f ≤ t → (∀ r, r ∈ l → r.hi ≤ t) → firstFrom l f ≤ t
  | [], f, t, hf, _ => hf
  | r :: l, f, t, hf, hh => by
    show firstFrom l (if r.lo ≤ f ∧ f < r.hi then r.hi else f) ≤ t
    refine firstFrom_le ?_ (fun q hq => hh q (by simp [hq]))
    split
    · exact hh r (by simp)
    · exact hf
theorem ahead_ok : ∀ {l : List Rng} {a p t : Int}, Canon a l → ¬ cov l p → p < t → (∀ r, r ∈ l → r.hi ≤ t) → p < ahead l p t ∧ ahead l p t ≤ t ∧ (∀ x, p ≤ x → x < ahead l p t → ¬ cov l x) ∧ (ahead l p t = t ∨ cov l (ahead l p t))
  | [], a, p, t, _, _, hp, _ => ⟨hp, Int.le_refl _, fun x _ _ => cov_nil x, .inl rfl⟩
  | r :: l, a, p, t, h, hc, hp, hh => by
    have hr2 := h.2.1
    show p < (if p < r.lo then r.lo else ahead l p t) ∧ (if p < r.lo then r.lo else ahead l p t) ≤ t ∧ (∀ x, p ≤ x → x < (if p < r.lo then r.lo else ahead l p t) → ¬ cov (r :: l) x) ∧ ((if p < r.lo then r.lo else ahead l p t) = t ∨ cov (r :: l) (if p < r.lo then r.lo else ahead l p t))
    by_cases c : p < r.lo
    · rw [if_pos c]
      refine ⟨c, by have := hh r (by simp); omega, fun x h1 h2 => ?_, .inr (cov_cons.2 (.inl ⟨Int.le_refl _, hr2⟩))⟩
      rw [cov_cons]
      rintro (e | ⟨q, hq, e⟩)
      · have := e.1; omega
      · have := (h.2.2.mem q hq).1
        have := e.1
        omega
    · rw [if_neg c]
      rw [cov_cons] at hc
      have hge : r.hi ≤ p := by
        by_cases hx : p < r.hi
        · exact absurd (.inl ⟨by omega, hx⟩) hc
        · omega
      obtain ⟨h1, h2, h3, h4⟩ := ahead_ok (p := p) (t := t) h.2.2 (fun e => hc (.inr e)) hp (fun q hq => hh q (by simp [hq]))
      refine ⟨h1, h2, fun x hx1 hx2 => ?_, h4.imp id fun e => cov_cons.2 (.inr e)⟩
      rw [cov_cons]
      rintro (e | e)
      · have := e.2; omega
      · exact h3 x hx1 hx2 e
/-- the place from which it is sent again, or none -/
theorem first_ok {s : St} (h : Inv s) {f : Int} (hf : f ≤ s.next) : first s f s.next ≤ s.next ∧ max f s.done ≤ first s f s.next ∧ (∀ x, 0 ≤ x → f ≤ x → x < first s f s.next → heardP s x) ∧ (first s f s.next < s.next → ¬ heardP s (first s f s.next)) := by
  obtain ⟨h1, h2, h3⟩ := firstFrom_ok (f := max f s.done) h.canon
  have hle := firstFrom_le (f := max f s.done) (t := s.next) (by have := h.lo; omega) h.hi
  unfold first
  refine ⟨by omega, by omega, fun x h0 hx1 hx2 => ?_, fun hlt => ?_⟩
  · by_cases hd : x < s.done
    · exact .inl ⟨h0, hd⟩
    · exact .inr (h3 x (by omega) (by omega))
  · rintro (e | e)
    · omega
    · rw [show min (firstFrom s.more (max f s.done)) s.next = firstFrom s.more (max f s.done) by omega] at e
      exact h2 e
/-- nothing is missing, or something is -/
theorem first_all {s : St} (h : Inv s) : first s s.done s.next = s.next ↔ ∀ x, 0 ≤ x → x < s.next → heardP s x := by
  obtain ⟨h1, h2, h3, h4⟩ := first_ok h (f := s.done) h.lo.2.1
  constructor
  · intro e x hx0 hx
    by_cases hd : x < s.done
    · exact .inl ⟨hx0, hd⟩
    · exact h3 x hx0 (by omega) (by omega)
  · intro e
    by_cases hlt : first s s.done s.next < s.next
    · exact absurd (e _ (by have := h.lo; omega) hlt) (h4 hlt)
    · omega
end Go.Proofs.Ytdldfllllgogoaa.sd
namespace Go.Proofs.Ytdldfllllgogoaa.sd
open had

/-- ranges added, one by one -/
structure Added (done : Int) (more : List Rng) (N : Int) (d : Int) (m : List Rng) (rs : List Rng) : Prop where
  lo : 0 ≤ d ∧ done ≤ d ∧ d ≤ N
  canon : Canon d m
  hi : ∀ r, r ∈ m → r.hi ≤ N
  came : ∀ p, ((0 ≤ p ∧ p < d) ∨ cov m p) ↔ ((0 ≤ p ∧ p < done) ∨ cov more p) ∨ cov rs p
theorem add_one {done N : Int} {more : List Rng} {r : Rng} (h0 : 0 ≤ done) (h1 : done ≤ N) (hc : Canon done more) (hh : ∀ r, r ∈ more → r.hi ≤ N) (hr : 0 ≤ r.lo ∧ r.lo ≤ r.hi ∧ r.hi ≤ N) : Added done more N (addTo done more r).1 (addTo done more r).2 [r] := by
  obtain ⟨a1, a2, a3⟩ := addTo_ok (r := r) h0 hc hr.1 hr.2.1
  have b1 := rv.cov_bound a1 a2 (B := N) (fun p hp => by
    rcases (a3 p).1 hp with e | ⟨q, hq, e⟩ | e
    · omega
    · have := hh q hq; have := e.2; omega
    · have := e.2; omega) (by omega)
  have c1 : done ≤ (addTo done more r).1 := by
    by_cases hx : (addTo done more r).1 < done
    · exfalso
      have := (a3 (addTo done more r).1).2 (.inl ⟨a1, hx⟩)
      rcases cov_full.1 this with e | ⟨q, hq, e⟩
      · omega
      · have := (a2.mem q hq).1; have := e.1; omega
    · omega
  refine ⟨⟨a1, c1, b1.1⟩, a2, b1.2, fun p => ?_⟩
  have h3 := a3 p
  rw [cov_full] at h3
  rw [h3, or_assoc, cov_cons]
  simp only [cov_nil, or_false]
theorem Added.next {done N d d2 : Int} {more m m2 rs : List Rng} {r : Rng} (h : Added done more N d m [r]) (h2 : Added d m N d2 m2 rs) : Added done more N d2 m2 (r :: rs) :=
  ⟨⟨h2.lo.1, by have := h.lo; have := h2.lo; omega, h2.lo.2.2⟩, h2.canon, h2.hi, fun p => by
    rw [h2.came p, h.came p, cov_cons, cov_cons]
    simp only [cov_nil, or_false, or_assoc]⟩
theorem Added.none {done N : Int} {more : List Rng} (h0 : 0 ≤ done) (h1 : done ≤ N) (hc : Canon done more) (hh : ∀ r, r ∈ more → r.hi ≤ N) : Added done more N done more [] := ⟨⟨h0, Int.le_refl _, h1⟩, hc, hh, fun p => by simp [cov_nil]⟩
theorem adds_ok : ∀ {rs : List Rng} {done N : Int} {more : List Rng}, 0 ≤ done → done ≤ N → Canon done more → (∀ r, r ∈ more → r.hi ≤ N) → more.length ≤ 16 → (∀ r, r ∈ rs → 0 ≤ r.lo ∧ r.lo ≤ r.hi ∧ r.hi ≤ N) →
    ∀ {d m}, adds done more rs = .ok (d, m) → Added done more N d m rs ∧ m.length ≤ 16
  | [], done, N, more, h0, h1, hc, hh, hl, _, d, m, e => by
    simp only [adds, Except.ok.injEq, Prod.mk.injEq] at e
    obtain ⟨rfl, rfl⟩ := e
    exact ⟨Added.none h0 h1 hc hh, hl⟩
  | r :: rs, done, N, more, h0, h1, hc, hh, hl, hr, d, m, e => by
    rw [adds] at e
    split at e
    · cases e
    · next hle =>
      have ha := add_one h0 h1 hc hh (hr r (by simp))
      obtain ⟨h3, h4⟩ := adds_ok ha.lo.1 ha.lo.2.2 ha.canon ha.hi (by omega) (fun q hq => hr q (by simp [hq])) e
      exact ⟨ha.next h3, h4⟩
theorem Inv.submit {s : St} (h : Inv s) (b : List UInt8) : Inv (submit s b).2 := by
  unfold sd.submit
  split
  · exact h
  · split
    · exact h
    · split
      · exact h
      · next hc _ hl =>
        refine ⟨?_, h.canon, h.few, h.hi, by simp only [List.length_append]; omega, h.again, h.edge⟩
        have := h.lo
        unfold endOf at *
        simp only [List.length_append]
        omega
theorem Inv.heard {s : St} (h : Inv s) (d : Deed) : Inv (heard s d).2 := by
  unfold sd.heard
  split
  · exact h
  · next hr =>
    split
    · exact h
    · split
      · exact h
      · next hs =>
        have hall : ∀ r, r ∈ (⟨0, d.ack⟩ : Rng) :: d.sacks → 0 ≤ r.lo ∧ r.lo ≤ r.hi ∧ r.hi ≤ s.next := fun r hm => by
          rcases List.mem_cons.1 hm with rfl | hm
          · simp only; omega
          · have : ¬ odd s.next r := fun e => hs ⟨r, hm, e⟩
            unfold odd at this
            omega
        cases e : adds s.done s.more (⟨0, d.ack⟩ :: d.sacks) with
        | error c => exact h
        | ok x =>
          obtain ⟨dn, mo⟩ := x
          obtain ⟨h3, h4⟩ := adds_ok h.lo.1 h.lo.2.1 h.canon h.hi h.few hall e
          refine ⟨⟨h3.lo.1, h3.lo.2.2, h.lo.2.2⟩, h3.canon, h4, h3.hi, h.size, h.again, ?_⟩
          have := h.edge
          have := h.lo
          have := h.end_
          simp only
          omega
theorem piece_len (s : St) (f t : Int) (hf : 0 ≤ f) (hft : f < t) (hl : f ≤ s.data.length) : ((piece s f t).data.length : Int) = min (min t s.data.length) (f + 64) - f := by
  unfold piece
  simp only
  rw [List.length_take, List.length_drop]
  omega
theorem piece_fin (s : St) (f t : Int) : (piece s f t).fin = decide (min (min t s.data.length) (f + 64) = s.data.length ∧ min (min t s.data.length) (f + 64) < t) := rfl
theorem after_piece {s : St} {f t : Int} (hf : 0 ≤ f) (hft : f < t) (hl : f ≤ s.data.length) (ht : t ≤ s.data.length + 1) : f < after (piece s f t) ∧ after (piece s f t) ≤ t ∧ after (piece s f t) = min (min t s.data.length) (f + 64) + fin1 (piece s f t).fin := by
  have h1 := piece_len s f t hf hft hl
  have h2 : (piece s f t).from_ = f := rfl
  unfold after
  rw [h1, h2, piece_fin]
  by_cases c : min (min t s.data.length) (f + 64) = s.data.length ∧ min (min t s.data.length) (f + 64) < t
  · rw [decide_eq_true c]
    simp only [fin1, if_true]
    omega
  · rw [decide_eq_false c]
    simp only [fin1]
    refine ⟨?_, ?_, ?_⟩ <;> simp <;> omega
theorem Inv.poll {s : St} (h : Inv s) : Inv (poll s).2 := by
  have hlo := h.lo
  have hen : endOf s ≤ s.data.length + 1 := by unfold endOf; have := fin1_le s.closed; omega
  unfold sd.poll
  simp only
  split
  · next hlt =>
    obtain ⟨h1, h2, h3, h4⟩ := first_ok h h.again.2
    have hnc : ¬ cov s.more (first s s.again s.next) := fun e => h4 hlt (.inr e)
    obtain ⟨a1, a2, _, _⟩ := ahead_ok h.canon hnc hlt h.hi
    obtain ⟨b1, b2, _⟩ := after_piece (s := s) (f := first s s.again s.next) (t := ahead s.more (first s s.again s.next) s.next) (by omega) a1 (by omega) (by omega)
    exact ⟨h.lo, h.canon, h.few, h.hi, h.size, ⟨by simp only; omega, by simp only; omega⟩, h.edge⟩
  · split
    · exact h
    · next hlt hle =>
      obtain ⟨b1, b2, _⟩ := after_piece (s := s) (f := s.next) (t := min (endOf s) s.edge) (by omega) (by omega) (by omega) (by omega)
      exact ⟨⟨hlo.1, by simp only; omega, by show after _ ≤ endOf s; omega⟩, h.canon, h.few, fun r hr => by have := h.hi r hr; simp only; omega, h.size, ⟨by simp only; omega, Int.le_refl _⟩, h.edge⟩
theorem Inv.timeout {s : St} (h : Inv s) : Inv (timeout s) := by
  refine ⟨h.lo, h.canon, h.few, h.hi, h.size, ⟨h.lo.1, h.lo.2.1⟩, ?_⟩
  unfold sd.timeout
  simp only
  split
  · have := h.lo; have := h.end_; omega
  · exact h.edge
theorem Inv.step {s : St} (h : Inv s) (d : Deed) : Inv (step s d).2 := by
  unfold sd.step
  split
  · exact h.submit _
  · split
    · split
      · exact h
      · refine ⟨?_, h.canon, h.few, h.hi, h.size, h.again, h.edge⟩
        have := h.lo
        unfold endOf at *
        have := fin1_le s.closed
        simp only [fin1, if_true] at *
        omega
    · split
      · exact h.heard d
      · split
        · exact h.timeout
        · split
          · exact h.poll
          · exact h
theorem Inv.afterAll {w : Int} (h0 : 0 ≤ w) (h1 : w ≤ 65535) (l : List Deed) : ∀ k, Inv (afterAll w l k).2
  | 0 => Inv.start h0 h1
  | k + 1 => by
    have ih := Inv.afterAll h0 h1 l k
    rw [sd.afterAll]
    split
    · exact ih.step _
    · exact ih
theorem afterAll_succ {w : Int} {l : List Deed} {k : Nat} {a : Deed} (h : l[k]? = some a) : afterAll w l (k + 1) = ((afterAll w l k).1 ++ [(doIt (afterAll w l k).2 a).1], (doIt (afterAll w l k).2 a).2) := by
  rw [afterAll, h]

/-! ### Places counted -/
/-- so many of the places from lo on, k of them looked at -/
def cnt (P : Int → Bool) (lo : Int) : Nat → Int
  | 0 => 0
  | k + 1 => cnt P lo k + if P (lo + k) = true then 1 else 0
theorem cnt_add (P : Int → Bool) (lo : Int) (k : Nat) : ∀ m : Nat, cnt P lo (k + m) = cnt P lo k + cnt P (lo + k) m
  | 0 => by simp [cnt]
  | m + 1 => by
    rw [← Nat.add_assoc, cnt, cnt_add P lo k m, cnt, show lo + ((k + m : Nat) : Int) = lo + (k : Int) + (m : Int) by omega]
    omega
theorem cnt_none {P : Int → Bool} {lo : Int} : ∀ {k : Nat}, (∀ x, lo ≤ x → x < lo + k → P x = false) → cnt P lo k = 0
  | 0, _ => rfl
  | k + 1, h => by
    rw [cnt, cnt_none (fun x h1 h2 => h x h1 (by omega)), h (lo + k) (by omega) (by omega)]
    rfl
theorem cnt_all {P : Int → Bool} {lo : Int} : ∀ {k : Nat}, (∀ x, lo ≤ x → x < lo + k → P x = true) → cnt P lo k = k
  | 0, _ => rfl
  | k + 1, h => by
    rw [cnt, cnt_all (fun x h1 h2 => h x h1 (by omega)), h (lo + k) (by omega) (by omega)]
    simp
theorem cnt_canon {P : Int → Bool} : ∀ {l : List Rng} {a : Int} {k : Nat}, Canon a l → (∀ r, r ∈ l → r.hi ≤ a + k) → (∀ x, a ≤ x → x < a + k → (P x = true ↔ cov l x)) → cnt P a k = total l
  | [], a, k, _, _, h => by
    rw [cnt_none (fun x h1 h2 => by
      cases hp : P x
      · rfl
      · exact absurd ((h x h1 h2).1 hp) (cov_nil x))]
    rfl
  | r :: l, a, k, hc, hh, h => by
    have h1 := hc.1
    have h2 := hc.2.1
    have h3 := hh r (by simp)
    obtain ⟨k1, hk1⟩ : ∃ k1 : Nat, r.lo = a + k1 := ⟨(r.lo - a).toNat, by omega⟩
    obtain ⟨k2, hk2⟩ : ∃ k2 : Nat, r.hi = a + k1 + k2 := ⟨(r.hi - r.lo).toNat, by omega⟩
    obtain ⟨k3, hk3⟩ : ∃ k3 : Nat, k = k1 + k2 + k3 := ⟨k - k1 - k2, by omega⟩
    subst hk3
    rw [cnt_add, cnt_add]
    have e1 : cnt P a k1 = 0 := cnt_none (fun x x1 x2 => by
      cases hp : P x
      · rfl
      · rcases cov_cons.1 ((h x x1 (by omega)).1 hp) with e | ⟨q, hq, e⟩
        · have := e.1; omega
        · have := (hc.2.2.mem q hq).1; have := e.1; omega)
    have e2 : cnt P (a + k1) k2 = k2 := cnt_all (fun x x1 x2 => (h x (by omega) (by omega)).2 (cov_cons.2 (.inl ⟨by omega, by omega⟩)))
    have e3 : cnt P (a + ((k1 + k2 : Nat) : Int)) k3 = total l := by
      rw [show a + ((k1 + k2 : Nat) : Int) = r.hi by omega]
      refine cnt_canon hc.2.2 (fun q hq => by have := hh q (by simp [hq]); omega) (fun x x1 x2 => ?_)
      rw [h x (by omega) (by omega), cov_cons]
      constructor
      · rintro (e | e)
        · have := e.2; omega
        · exact e
      · exact .inr
    rw [e1, e2, e3]
    unfold total
    rw [List.map_cons, List.sum_cons]
    omega
/-- the places heard of, counted -/
theorem cnt_heard {s : St} (h : Inv s) {P : Int → Bool} (hP : ∀ x, 0 ≤ x → x < s.next → (P x = true ↔ heardP s x)) {N : Nat} (hN : s.next = N) : cnt P 0 N = s.done + total s.more := by
  have hlo := h.lo
  obtain ⟨d, hd⟩ : ∃ d : Nat, s.done = d := ⟨s.done.toNat, by omega⟩
  obtain ⟨m, rfl⟩ : ∃ m : Nat, N = d + m := ⟨N - d, by omega⟩
  rw [cnt_add, cnt_all (fun x h1 h2 => (hP x h1 (by omega)).2 (.inl ⟨h1, by omega⟩))]
  rw [show (0 : Int) + (d : Int) = s.done by omega, cnt_canon h.canon (fun r hr => by have := h.hi r hr; omega) (fun x h1 h2 => by
    rw [hP x (by omega) (by omega)]
    unfold heardP
    constructor
    · rintro (e | e)
      · omega
      · exact e
    · exact .inr)]
  omega
/-! ### Ranges counted -/
/-- so many ranges begin, k places from lo on looked at -/
def isl (P : Int → Bool) (lo : Int) : Nat → Nat
  | 0 => 0
  | k + 1 => isl P lo k + if (P (lo + k) && !P (lo + k - 1)) = true then 1 else 0
theorem isl_runs {P : Int → Bool} {lo : Int} (h0 : P lo = false) : ∀ k : Nat, (rv.runs P lo k).length = isl P lo k
  | 0 => rfl
  | k + 1 => by
    have ih := isl_runs h0 k
    obtain ⟨c1, c2, c3⟩ := rv.runs_ok P lo k
    rw [isl, rv.runs]
    cases hp : P (lo + k) with
    | false => simp [ih]
    | true =>
      have hk : 0 < k := by
        rcases Nat.eq_zero_or_pos k with e | e
        · subst e
          simp at hp
          rw [hp] at h0
          cases h0
        · exact e
      rw [if_pos rfl]
      rcases List.eq_nil_or_concat (rv.runs P lo k) with e | ⟨o, x, e⟩
      · rw [e] at ih c3 ⊢
        have hq : P (lo + k - 1) = false := by
          cases hq : P (lo + k - 1)
          · rfl
          · exact absurd ((c3 (lo + k - 1)).2 ⟨⟨by omega, by omega⟩, hq⟩) (cov_nil _)
        rw [hq]
        simp at ih ⊢
        omega
      · rw [List.concat_eq_append] at e
        rw [e] at ih c1 c2 c3 ⊢
        simp only [List.getLast?_append, List.getLast?_singleton, Option.some_or]
        have hx := c1.mem x (by simp)
        by_cases hh : x.hi = lo + k
        · have hq : P (lo + k - 1) = true := ((c3 (lo + k - 1)).1 ⟨x, by simp, by unfold inR; omega⟩).2
          rw [if_pos hh, hq, List.dropLast_concat]
          simp at ih ⊢
          exact ih
        · have hq : P (lo + k - 1) = false := by
            cases hq : P (lo + k - 1)
            · rfl
            · exfalso
              obtain ⟨r, hr, hin⟩ := (c3 (lo + k - 1)).2 ⟨⟨by omega, by omega⟩, hq⟩
              have h2 := c2 r hr
              have h4 := hin.2
              rcases List.mem_append.1 hr with hr | hr
              · have := c1.lastlo r hr
                have := c2 x (by simp)
                omega
              · rw [List.mem_singleton] at hr
                subst hr
                omega
          rw [if_neg hh, hq]
          simp at ih ⊢
          exact ih
end Go.Proofs.Ytdldfllllgogoaa.sd
namespace Go.Proofs.Ytdldfllllgogoaa.rv
open had

theorem part_len {room : Int} {s : St} {a : Arrival} (h : frOf s a < upOf room s a) : ((part room s a).length : Int) = upOf room s a - frOf s a := by
  have h1 : a.from_ ≤ frOf s a := by unfold frOf; omega
  have h2 : upOf room s a ≤ to_ a := by unfold upOf; omega
  unfold to_ at h2
  unfold part
  rw [List.length_take, List.length_drop]
  omega
theorem Inv.arrive {room : Int} {s : St} (h : Inv room s) (a : Arrival) : Inv room (arrive room s a).2 := by
  have hlo := h.lo
  unfold rv.arrive
  split
  · exact h
  · next h1 =>
    split
    · exact h
    · split
      · exact h
      · have he : (if a.fin = true then to_ a else s.end_) = -1 ∨ 0 ≤ (if a.fin = true then to_ a else s.end_) ∧ (if a.fin = true then to_ a else s.end_) < 1048576 := by
          split
          · right; unfold to_ at *; omega
          · exact h.fin
        split
        · next hlt =>
          split
          · exact h
          · next hl =>
            have hp := part_len hlt
            have hfr : 0 ≤ frOf s a := by unfold frOf; omega
            refine h.add hfr hlt (by unfold upOf; omega) (by have : upOf room s a ≤ to_ a := by unfold upOf; omega
                                                             omega) (by omega) he ?_
            rw [kept_len]
            omega
        · exact ⟨h.lo, h.canon, h.few, h.top, h.hi, he, h.len⟩
theorem takeOf_le {room : Int} {s : St} (h : Inv room s) {c : Int} (hc : 0 ≤ c) : ((takeOf s c : Nat) : Int) = min c (s.done - s.taken) := by
  have := h.lo
  unfold takeOf
  omega
theorem Inv.step {room : Int} {s : St} (h : Inv room s) (a : Arrival) : Inv room (step room s a).2 := by
  unfold rv.step
  split
  · exact h.arrive a
  · split
    · split
      · exact h
      · next hc =>
        have hk := takeOf_le h (c := a.count) (by omega)
        have hlo := h.lo
        exact ⟨by simp only; omega, h.canon, h.few, h.top, fun r hr => ⟨by have := (h.hi r hr).1; simp only; omega, (h.hi r hr).2⟩, h.fin, h.len⟩
    · exact h
theorem Inv.after {room : Int} (hr : 1 ≤ room) (l : List Arrival) : ∀ k, Inv room (after room l k).2
  | 0 => Inv.start hr
  | k + 1 => by
    have ih := Inv.after hr l k
    rw [rv.after]
    split
    · exact ih.step _
    · exact ih
theorem after_succ {room : Int} {l : List Arrival} {k : Nat} {a : Arrival} (h : l[k]? = some a) : after room l (k + 1) = ((after room l k).1 ++ [(doIt room (after room l k).2 a).1], (doIt room (after room l k).2 a).2) := by
  rw [after, h]
theorem after_len {room : Int} {l : List Arrival} : ∀ {k : Nat}, k ≤ l.length → (after room l k).1.length = k
  | 0, _ => rfl
  | k + 1, h => by
    rw [after_succ (List.getElem?_eq_getElem (by omega)), List.length_append, after_len (by omega)]
    rfl
/-- what hole.Add says of it -/
theorem ans_of {room : Int} {s : St} (h : Inv room s) {fr up : Int} (h0 : 0 ≤ fr) (h1 : fr < up) (h3 : up ≤ 1048575) :
    ans s.done s.more ⟨fr, up⟩ = if 16 < (addTo s.done s.more ⟨fr, up⟩).2.length then (0, [], 9) else ((addTo s.done s.more ⟨fr, up⟩).1, (addTo s.done s.more ⟨fr, up⟩).2, 0) := by
  unfold ans
  rw [if_neg (by simp [holeMayB_true h.may]), if_neg (by simp only; omega)]
/-- what hole.Sacks says of it -/
theorem sack_of {room : Int} {s : St} (h : Inv room s) (last : Int) : sackRes s.done s.more last 3 = .ok (sacks last 3 s.more) := by
  unfold sackRes
  rw [if_neg (by simp [holeMayB_true h.may]), if_neg (by omega)]
/-- the last place of all that came -/
theorem beyond_iff {room : Int} {s : St} (h : Inv room s) (q : Int) (h0 : 0 ≤ q) : q < beyond s ↔ q < s.done ∨ ∃ n, came s n ∧ q ≤ n := by
  have hlo := h.lo
  unfold beyond
  rcases List.eq_nil_or_concat s.more with e | ⟨o, x, e⟩
  · rw [e]
    simp only [List.getLast?_nil]
    constructor
    · exact .inl
    · rintro (h1 | ⟨n, hn, h1⟩)
      · exact h1
      · rcases hn with h2 | ⟨r, hr, _⟩
        · omega
        · rw [e] at hr; cases hr
  · rw [List.concat_eq_append] at e
    have hc := h.canon
    rw [e] at hc ⊢
    simp only [List.getLast?_append, List.getLast?_singleton, Option.some_or]
    have hx := hc.mem x (by simp)
    constructor
    · intro h1
      exact .inr ⟨x.hi - 1, .inr ⟨x, by rw [e]; simp, by unfold inR; omega⟩, by omega⟩
    · rintro (h1 | ⟨n, hn, h1⟩)
      · omega
      · rcases hn with h2 | ⟨r, hr, hp⟩
        · omega
        · rw [e] at hr
          rcases List.mem_append.1 hr with hr | hr
          · have := hc.lastlo r hr
            have := hp.2
            omega
          · rw [List.mem_singleton] at hr
            subst hr
            have := hp.2
            omega
end Go.Proofs.Ytdldfllllgogoaa.rv
namespace Go.Proofs.Ytdldfllllgogoaa
open Go.RowKit

/-- the cells xs read as the list L, through blocks of S -/
def RowsOf {α : Type} (R : Rep α) (w : World) (S : Nat → Prop) : List α → List Value → Prop
  | [], xs => xs = []
  | a :: L, xs => ∃ cs ys, xs = cs ++ ys ∧ R.rep w S a cs ∧ RowsOf R w S L ys
section
variable {α : Type} {R : Rep α} {w w' : World} {S S' : Nat → Prop}
theorem RowsOf.nil : RowsOf R w S [] [] := rfl
theorem RowsOf.keep : ∀ {L : List α} {xs : List Value}, RowsOf R w S L xs → (∀ k, S k → S' k ∧ w'.heap[k]? = w.heap[k]?) → RowsOf R w' S' L xs
  | [], _, h, _ => h
  | _ :: _, _, ⟨cs, ys, e, h1, h2⟩, hk => ⟨cs, ys, e, R.mono h1 hk, RowsOf.keep h2 hk⟩
theorem RowsOf.len : ∀ {L : List α} {xs : List Value}, RowsOf R w S L xs → xs.length = L.length * R.size
  | [], xs, h => by rw [show xs = [] from h]; simp
  | a :: L, xs, ⟨cs, ys, e, h1, h2⟩ => by rw [e, List.length_append, R.len h1, RowsOf.len h2, List.length_cons, Nat.succ_mul]; omega
theorem RowsOf.snoc {a : α} {cs : List Value} (ha : R.rep w S a cs) : ∀ {L : List α} {xs : List Value}, RowsOf R w S L xs → RowsOf R w S (L ++ [a]) (xs ++ cs)
  | [], xs, h => ⟨cs, [], by rw [show xs = [] from h]; simp, ha, rfl⟩
  | _ :: _, _, ⟨cs', ys, e, h1, h2⟩ => ⟨cs', ys ++ cs, by rw [e, List.append_assoc], h1, RowsOf.snoc ha h2⟩
theorem RowsOf.at : ∀ {L : List α} {xs : List Value} {i : Nat} {a : α}, RowsOf R w S L xs → L[i]? = some a → ∃ cs, R.rep w S a cs ∧ ∀ j u, cs[j]? = some u → xs[i * R.size + j]? = some u
  | [], _, i, a, _, hi => by simp at hi
  | x :: L, _, 0, a, ⟨cs, ys, e, h1, _⟩, hi => by
    simp at hi
    subst hi
    refine ⟨cs, h1, fun j u hu => ?_⟩
    rw [e, Nat.zero_mul, Nat.zero_add, List.getElem?_append_left (List.getElem?_eq_some_iff.1 hu).1]
    exact hu
  | x :: L, _, i + 1, a, ⟨cs, ys, e, h1, h2⟩, hi => by
    obtain ⟨cs', h3, h4⟩ := RowsOf.at h2 (by simpa using hi)
    refine ⟨cs', h3, fun j u hu => ?_⟩
    have hl := R.len h1
    rw [e, List.getElem?_append_right (by rw [hl, Nat.succ_mul]; omega), hl, show (i + 1) * R.size + j - R.size = i * R.size + j by rw [Nat.succ_mul]; omega]
    exact h4 j u hu
theorem RowsOf.rep {base e size n c : Nat} {A : Option Addr} {L : List α} {xs : List Value} (h : RowsOf R w S L xs) (hsz : R.size = size) (hpos : 0 < size) (hS : ∀ k, S k → S' k) (ho : Own w base e size A n c xs) (hA : ∀ k, blkOf A = some k → S' k) : n = L.length ∧ SlRep R w S' L A c := by
  subst hsz
  have hn : n = L.length := by
    have h1 := ho.len
    rw [h.len] at h1
    exact (Nat.eq_of_mul_eq_mul_right hpos h1).symm
  refine ⟨hn, ⟨by have := ho.cap; omega, ho.cap.2, ?_⟩⟩
  cases L with
  | nil => exact .inl rfl
  | cons y r =>
    obtain ⟨cs0, h0, h0'⟩ := h.at (i := 0) (a := y) rfl
    have h0l : 0 < cs0.length := by rw [R.len h0]; exact hpos
    obtain ⟨g, rfl, h1, h2, _⟩ := ho.cell (h0' 0 _ (List.getElem?_eq_getElem h0l))
    refine .inr ⟨g, 0, rfl, hA g rfl, fun i z hz => ?_⟩
    obtain ⟨cs, h3, h4⟩ := h.at hz
    refine ⟨cs, R.mono h3 fun k hk => ⟨hS k hk, rfl⟩, fun j u hu => ?_⟩
    obtain ⟨g', e1, _, _, hc⟩ := ho.cell (h4 j u hu)
    simp only [Option.some.injEq, Addr.mk.injEq, and_true] at e1
    subst e1
    rw [Nat.zero_add]
    exact hc
theorem Own.setAt {base e size g n c : Nat} {xs : List Value} (h : Own w base e size (some ⟨g, 0, none⟩) n c xs) {j : Nat} (v : Value) : Own (w.setCell ⟨g, j, none⟩ v) base e size (some ⟨g, 0, none⟩) n c (xs.set j v) := by
  obtain ⟨h1, h2⟩ := h
  refine ⟨by rw [List.length_set]; exact h1, .inr ?_⟩
  rcases h2 with ⟨h3, _⟩ | ⟨g', cap, cur, h3, h4, h5, h6, h7, h8, h9⟩
  · simp at h3
  · simp only [Value.slice.injEq, Option.some.injEq, Addr.mk.injEq, and_true] at h3
    obtain ⟨rfl, _, rfl⟩ := h3
    refine ⟨g, c, cur.set! j v, rfl, h4, heap_setCell_same w g j _ _ _ h5, h6, h7, by simpa using h8, ?_⟩
    rw [← h9]
    simp only [Array.set!_eq_setIfInBounds, Array.toList_setIfInBounds, List.take_set]
theorem Own.frozenAt {base e size n c g : Nat} {xs : List Value} (h : Own w base e size (some ⟨g, 0, none⟩) n c xs) (j : Nat) : w.frozen? ⟨g, j, none⟩ = false := by
  rcases h.2 with ⟨h1, _⟩ | ⟨g', cap, cur, h1, _, h3, _⟩
  · simp at h1
  · simp only [Value.slice.injEq, Option.some.injEq, Addr.mk.injEq, and_true] at h1
    obtain ⟨rfl, _⟩ := h1
    simp [World.frozen?, h3]
theorem Own.some {base e size n c : Nat} {A : Option Addr} {xs : List Value} (h : Own w base e size A n c xs) (hp : 0 < xs.length) : ∃ g, A = some ⟨g, 0, none⟩ ∧ base ≤ g ∧ g < w.heap.size := by
  obtain ⟨g, e1, h1, h2, _⟩ := h.cell (List.getElem?_eq_getElem hp)
  exact ⟨g, e1, h1, h2⟩
end
end Go.Proofs.Ytdldfllllgogoaa
namespace Go.Proofs.Ytdldfllllgogoaa
open Go.RowKit

/-- the block F holds these four cells -/
def Blk4 (w : World) (F : Nat) (T : TypeId) (x y z u : Value) : Prop := w.heap[F]? = some (.cells #[x, y, z, u] T (0, 0))
section
variable {w w' : World} {F : Nat} {T : TypeId} {x y z u : Value}
theorem Blk4.lt (h : Blk4 w F T x y z u) : F < w.heap.size := (Array.getElem?_eq_some_iff.1 h).1
theorem Blk4.new (w : World) (T : TypeId) (x y z u : Value) : Blk4 (w.alloc (.cells #[x, y, z, u] T)) w.heap.size T x y z u := heap_alloc_new w _
theorem Blk4.same (h : Blk4 w F T x y z u) (hk : w'.heap[F]? = w.heap[F]?) : Blk4 w' F T x y z u := hk.trans h
theorem Blk4.next (h : Blk4 w F T x y z u) (hb : Below w.heap.size w w') : Blk4 w' F T x y z u := h.same (hb.block F h.lt)
theorem Blk4.alloc (h : Blk4 w F T x y z u) (o : Obj) : Blk4 (w.alloc o) F T x y z u := h.same (Below.heap_alloc w o F h.lt)
theorem Blk4.drewN (h : Blk4 w F T x y z u) (k : Nat) : Blk4 (w.drewN k) F T x y z u := h
theorem Blk4.drew (h : Blk4 w F T x y z u) : Blk4 w.drew F T x y z u := h
theorem Blk4.kept {row : Option Nat} (h : Blk4 w F T x y z u) (hg : w.grownBy w' row) (hne : row ≠ some F) : Blk4 w' F T x y z u := h.same (hg.block F h.lt (fun e => hne e.symm))
theorem Blk4.setCell (h : Blk4 w F T x y z u) {p : Addr} (hp : p.block ≠ F) (v : Value) : Blk4 (w.setCell p v) F T x y z u := h.same (Below.heap_setCell w p v F (fun e => hp e.symm))
theorem Blk4.get (h : Blk4 w F T x y z u) (j : Nat) : w.cell? ⟨F, j, none⟩ = #[x, y, z, u][j]? := cell_of_row w F j _ T (0, 0) h
theorem Blk4.cell0 (h : Blk4 w F T x y z u) : w.cell? ⟨F, 0, none⟩ = some x := h.get 0
theorem Blk4.cell1 (h : Blk4 w F T x y z u) : w.cell? ⟨F, 1, none⟩ = some y := h.get 1
theorem Blk4.cell2 (h : Blk4 w F T x y z u) : w.cell? ⟨F, 2, none⟩ = some z := h.get 2
theorem Blk4.cell3 (h : Blk4 w F T x y z u) : w.cell? ⟨F, 3, none⟩ = some u := h.get 3
theorem Blk4.frozen (h : Blk4 w F T x y z u) (j : Nat) : w.frozen? ⟨F, j, none⟩ = false := by
  have h' : w.heap[F]? = some (.cells #[x, y, z, u] T (0, 0)) := h
  simp [World.frozen?, h']
theorem Blk4.set0 (h : Blk4 w F T x y z u) (v : Value) : Blk4 (w.setCell ⟨F, 0, none⟩ v) F T v y z u := heap_setCell_same w F 0 _ _ _ h
theorem Blk4.set1 (h : Blk4 w F T x y z u) (v : Value) : Blk4 (w.setCell ⟨F, 1, none⟩ v) F T x v z u := heap_setCell_same w F 1 _ _ _ h
theorem Blk4.set2 (h : Blk4 w F T x y z u) (v : Value) : Blk4 (w.setCell ⟨F, 2, none⟩ v) F T x y v u := heap_setCell_same w F 2 _ _ _ h
theorem Blk4.set3 (h : Blk4 w F T x y z u) (v : Value) : Blk4 (w.setCell ⟨F, 3, none⟩ v) F T x y z v := heap_setCell_same w F 3 _ _ _ h
/-- a row of elements of another type lies elsewhere -/
theorem Blk4.apart (h : Blk4 w F T x y z u) {base : Nat} {e : TypeId} {size n c : Nat} {A : Option Addr} {xs : List Value} (ho : Own w base e size A n c xs) (hT : e ≠ T) : blkOf A ≠ some F := by
  intro he
  have h' : w.heap[F]? = some (.cells #[x, y, z, u] T (0, 0)) := h
  rcases ho.2 with ⟨h1, _⟩ | ⟨g, cap, cur, h1, _, h3, _⟩
  · simp only [Value.slice.injEq] at h1
    rw [h1.1] at he
    cases he
  · simp only [Value.slice.injEq] at h1
    rw [h1.1] at he
    have hg : g = F := by simpa [blkOf] using he
    subst hg
    rw [h'] at h3
    simp only [Option.some.injEq, Obj.cells.injEq] at h3
    exact hT h3.2.1.symm
/-- two structs of two types lie in two blocks -/
theorem Blk4.two (h : Blk4 w F T x y z u) {F' : Nat} {T' : TypeId} {x' y' z' u' : Value} (h2 : Blk4 w F' T' x' y' z' u') (hT : T ≠ T') : F ≠ F' := by
  rintro rfl
  have h' : w.heap[F]? = some (.cells #[x, y, z, u] T (0, 0)) := h
  have h2' : w.heap[F]? = some (.cells #[x', y', z', u'] T' (0, 0)) := h2
  rw [h'] at h2'
  simp only [Option.some.injEq, Obj.cells.injEq] at h2'
  exact hT h2'.2.1
end
/-- two rows of elements of two types lie in two blocks -/
theorem Own.two {w : World} {base base' : Nat} {e e' : TypeId} {size size' n n' c c' : Nat} {A A' : Option Addr} {xs xs' : List Value} (h : Own w base e size A n c xs) (h2 : Own w base' e' size' A' n' c' xs') (he : e ≠ e') : blkOf A = none ∨ blkOf A ≠ blkOf A' := by
  rcases h.2 with ⟨h1, _⟩ | ⟨g, cap, cur, h1, _, h3, _⟩
  · simp only [Value.slice.injEq] at h1
    exact .inl (by rw [h1.1]; rfl)
  · refine .inr fun hA => ?_
    simp only [Value.slice.injEq] at h1
    rcases h2.2 with ⟨k1, _⟩ | ⟨g', cap', cur', k1, _, k3, _⟩
    · simp only [Value.slice.injEq] at k1
      rw [h1.1, k1.1] at hA
      cases hA
    · simp only [Value.slice.injEq] at k1
      rw [h1.1, k1.1] at hA
      have hg : g = g' := by simpa [blkOf] using hA
      subst hg
      rw [h3] at k3
      simp only [Option.some.injEq, Obj.cells.injEq] at k3
      exact he k3.2.1

/-- what is asked for, as cells -/
def wantCells (l : List Want) : List Value := l.flatMap fun w => [.int .i64 w.at_, .int .i64 w.count]
theorem wantCells_len (l : List Want) : (wantCells l).length = l.length * 2 := by
  induction l with
  | nil => rfl
  | cons a r ih => unfold wantCells at *; rw [List.flatMap_cons, List.length_append, ih]; simp; omega
theorem wantCells_app (l m : List Want) : wantCells (l ++ m) = wantCells l ++ wantCells m := by unfold wantCells; rw [List.flatMap_append]
theorem wantCells_one (a b : Int) : wantCells [⟨a, b⟩] = [.int .i64 a, .int .i64 b] := rfl
theorem wantCells_at : ∀ {l : List Want} {i : Nat} {a : Want}, l[i]? = some a → (wantCells l)[i * 2]? = some (.int .i64 a.at_) ∧ (wantCells l)[i * 2 + 1]? = some (.int .i64 a.count)
  | [], i, a, h => by simp at h
  | b :: r, 0, a, h => by
    simp at h
    subst h
    exact ⟨rfl, rfl⟩
  | b :: r, i + 1, a, h => by
    have h2 := wantCells_at (l := r) (i := i) (a := a) (by simpa using h)
    have e : wantCells (b :: r) = [.int .i64 b.at_, .int .i64 b.count] ++ wantCells r := rfl
    rw [e, List.getElem?_append_right (by simp; omega), List.getElem?_append_right (by simp; omega), List.length_cons, List.length_cons, List.length_nil, show (i + 1) * 2 - (0 + 1 + 1) = i * 2 by omega, show (i + 1) * 2 + 1 - (0 + 1 + 1) = i * 2 + 1 by omega]
    exact h2
theorem wantCells_take (l : List Want) (i : Nat) : (wantCells l).take (i * 2) = wantCells (l.take i) := by
  induction l generalizing i with
  | nil => simp [wantCells]
  | cons a r ih =>
    cases i with
    | zero => simp [wantCells]
    | succ i =>
      have e : ∀ r, wantCells (a :: r) = .int .i64 a.at_ :: .int .i64 a.count :: wantCells r := fun _ => rfl
      rw [List.take_succ_cons, e, e, ← ih, show (i + 1) * 2 = i * 2 + 1 + 1 by omega, List.take_succ_cons, List.take_succ_cons]
theorem wantCells_drop (l : List Want) (i : Nat) : (wantCells l).drop (i * 2) = wantCells (l.drop i) := by
  induction l generalizing i with
  | nil => simp [wantCells]
  | cons a r ih =>
    cases i with
    | zero => simp [wantCells]
    | succ i =>
      have e : wantCells (a :: r) = .int .i64 a.at_ :: .int .i64 a.count :: wantCells r := rfl
      rw [List.drop_succ_cons, e, ← ih, show (i + 1) * 2 = i * 2 + 1 + 1 by omega, List.drop_succ_cons, List.drop_succ_cons]
end Go.Proofs.Ytdldfllllgogoaa
namespace Go.Proofs.Ytdldfllllgogoaa
open Go.RowKit

/-- the cells vs laid over a list from place o on -/
def overl (l : List Value) : Nat → List Value → List Value
  | _, [] => l
  | o, v :: r => overl (l.set o v) (o + 1) r
theorem overl_len : ∀ (vs : List Value) (l : List Value) (o : Nat), (overl l o vs).length = l.length
  | [], _, _ => rfl
  | v :: r, l, o => by rw [overl, overl_len r, List.length_set]
theorem overl_get : ∀ (vs : List Value) (l : List Value) (o j : Nat), o + vs.length ≤ l.length → (overl l o vs)[j]? = if o ≤ j ∧ j < o + vs.length then vs[j - o]? else l[j]?
  | [], l, o, j, _ => by rw [overl, if_neg (fun h => by have h2 := h.2; rw [List.length_nil] at h2; omega)]
  | v :: r, l, o, j, h => by
    rw [List.length_cons] at h
    rw [overl, overl_get r (l.set o v) (o + 1) j (by rw [List.length_set]; omega), List.length_cons]
    by_cases h1 : o + 1 ≤ j ∧ j < o + 1 + r.length
    · rw [if_pos h1, if_pos (by omega), show j - o = (j - (o + 1)) + 1 by omega, List.getElem?_cons_succ]
    · rw [if_neg h1]
      by_cases h2 : j = o
      · subst h2
        rw [if_pos (by omega), Nat.sub_self, List.getElem?_set_self (by omega)]; rfl
      · rw [if_neg (by omega), List.getElem?_set_ne (by omega)]
theorem overl_take {vs l : List Value} {o m : Nat} (h : o + vs.length ≤ l.length) (hm : m ≤ o) : (overl l o vs).take m = l.take m := by
  apply List.ext_getElem?
  intro j
  rw [List.getElem?_take, List.getElem?_take]
  by_cases hj : j < m
  · rw [if_pos hj, if_pos hj, overl_get _ _ _ _ h, if_neg (by omega)]
  · rw [if_neg hj, if_neg hj]
theorem overl_take2 {vs l : List Value} {o : Nat} (h : o + vs.length ≤ l.length) : (overl l o vs).take (o + vs.length) = l.take o ++ vs := by
  apply List.ext_getElem?
  intro j
  rw [List.getElem?_take]
  by_cases hj : j < o + vs.length
  · rw [if_pos hj, overl_get _ _ _ _ h]
    by_cases h1 : o ≤ j
    · rw [if_pos ⟨h1, hj⟩, List.getElem?_append_right (by rw [List.length_take]; omega), List.length_take, Nat.min_eq_left (by omega)]
    · rw [if_neg (by omega), List.getElem?_append_left (by rw [List.length_take]; omega), List.getElem?_take, if_pos (by omega)]
  · rw [if_neg hj, List.getElem?_eq_none (by rw [List.length_append, List.length_take]; omega)]

theorem heap_setCells_same (g : Nat) (e : TypeId) : ∀ (vs : List Value) (o : Nat) (w : World) (cur : Array Value), w.heap[g]? = some (.cells cur e (0, 0)) → (w.setCells g o vs).heap[g]? = some (.cells (overl cur.toList o vs).toArray e (0, 0))
  | [], _, w, cur, h => by rw [World.setCells, overl, h]
  | v :: r, o, w, cur, h => by
    rw [World.setCells, heap_setCells_same g e r (o + 1) _ (cur.set! o v) (heap_setCell_same w g o _ _ _ h), overl]
    rw [Array.set!_eq_setIfInBounds, Array.toList_setIfInBounds]
theorem keep_setCells (g : Nat) : ∀ (vs : List Value) (o : Nat) (w : World), (w.setCells g o vs).heap.size = w.heap.size ∧ (w.setCells g o vs).os = w.os ∧ (w.setCells g o vs).tape = w.tape ∧ (w.setCells g o vs).output = w.output ∧ ∀ k, k ≠ g → (w.setCells g o vs).heap[k]? = w.heap[k]?
  | [], _, w => ⟨rfl, rfl, rfl, rfl, fun _ _ => rfl⟩
  | v :: r, o, w => by
    obtain ⟨h1, h2, h3, h4, h5⟩ := keep_setCells g r (o + 1) (w.setCell ⟨g, o, none⟩ v)
    refine ⟨h1.trans (by simp [World.setCell]), h2, h3, h4, fun k hk => (h5 k hk).trans (Below.heap_setCell w _ _ k hk)⟩

section
variable {w : World} {base g : Nat} {e : TypeId} {size n c : Nat} {xs : List Value}
/-- cells stored within and behind what is owned: m elements are owned then -/
theorem Own.over (h : Own w base e size (Option.some ⟨g, 0, none⟩) n c xs) {o : Nat} {vs : List Value} (hv : o + vs.length ≤ n * size) (m : Nat) (hm : m * size ≤ o + vs.length) (hmc : m ≤ c) : Own (w.setCells g o vs) base e size (Option.some ⟨g, 0, none⟩) m c ((xs.take o ++ vs).take (m * size)) := by
  have hl := h.len
  refine ⟨by rw [List.length_take, List.length_append, List.length_take]; omega, .inr ?_⟩
  rcases h.2 with ⟨h1, _⟩ | ⟨g', cap, cur, h1, h2, h3, h4, h5, h6, h7⟩
  · simp at h1
  · simp only [Value.slice.injEq, Option.some.injEq, Addr.mk.injEq, and_true] at h1
    obtain ⟨rfl, _, rfl⟩ := h1
    have hle : n * size ≤ cur.toList.length := by
      have h8 := congrArg List.length h7
      rw [List.length_take, hl] at h8
      omega
    refine ⟨g, c, (overl cur.toList o vs).toArray, rfl, h2, heap_setCells_same g e vs o w cur h3, hmc, h5, ?_, ?_⟩
    · have h8 := overl_len vs cur.toList o
      simp only [List.size_toArray]
      rw [h8]
      simpa using h6
    · show (overl cur.toList o vs).take (m * size) = _
      rw [← h7, List.take_take, Nat.min_eq_left (by omega), ← overl_take2 (by omega), List.take_take, Nat.min_eq_left (by omega)]
/-- cells stored behind what is owned -/
theorem Own.past (h : Own w base e size (Option.some ⟨g, 0, none⟩) n c xs) {o : Nat} {vs : List Value} (ho : n * size ≤ o) (hc : o + vs.length ≤ c * size) : Own (w.setCells g o vs) base e size (Option.some ⟨g, 0, none⟩) n c xs := by
  refine ⟨h.1, .inr ?_⟩
  rcases h.2 with ⟨h1, _⟩ | ⟨g', cap, cur, h1, h2, h3, h4, h5, h6, h7⟩
  · simp at h1
  · simp only [Value.slice.injEq, Option.some.injEq, Addr.mk.injEq, and_true] at h1
    obtain ⟨rfl, _, rfl⟩ := h1
    refine ⟨g, c, (overl cur.toList o vs).toArray, rfl, h2, heap_setCells_same g e vs o w cur h3, h4, h5, ?_, ?_⟩
    · have h8 := overl_len vs cur.toList o
      simp only [List.size_toArray]
      rw [h8]
      simpa using h6
    · show (overl cur.toList o vs).take (n * size) = _
      have hq : o + vs.length ≤ cur.toList.length := by have h9 : cur.toList.length = cur.size := Array.length_toList; rw [h9, h6]; exact hc
      rw [← h7, overl_take hq ho]
theorem Own.there (h : Own w base e size (Option.some ⟨g, 0, none⟩) n c xs) {j : Nat} (hj : j < n * size) : (w.cell? ⟨g, j, none⟩).isSome = true := by
  have hl := h.len
  obtain ⟨g', e1, _, _, hc⟩ := h.cell (j := j) (List.getElem?_eq_getElem (by omega))
  simp only [Option.some.injEq, Addr.mk.injEq, and_true] at e1
  rw [e1, hc]; rfl
end

/-- clear(s) at elements of many cells -/
theorem run_clear_many {P : Program} (w : World) (t e ty : TypeId) (z : Value) (zs : List Value) (ht : P.underlying t = some (.slice e)) (hv : ∀ w, (zeroValue e).run P w = .ok z w) (n : Nat) (hz : (Builtin.zeroCells z.cells n).toList = zs) (h1 : ∀ u ∈ zs, u.oneCell' = true) (b o c : Nat) (hn : 0 < n)
    (hc : ∀ j, j < zs.length → (w.cell? ⟨b, o + j, none⟩).isSome = true) (hf : ∀ j, j < zs.length → w.frozen? ⟨b, o + j, none⟩ = false) :
    (Builtin.clear_ #[t] ty #[.slice (some ⟨b, o, none⟩) n c]).run P w = .ok (.tuple #[]) (w.setCells b o zs) := by
  have hst := run_storeCells_cells (P := P) b o zs 0 w (by simpa using hc) (by simpa using hf) h1
  simp only [Nat.add_zero] at hst
  obtain ⟨m, rfl⟩ : ∃ m, n = m + 1 := ⟨n - 1, by omega⟩
  simp [Builtin.clear_, run_underlying ht, hv, hz, hst]
end Go.Proofs.Ytdldfllllgogoaa
namespace Go.Proofs.Ytdldfllllgogoaa
open Go.RowKit

/-- two rows lie in two blocks -/
def Far (A A' : Option Addr) : Prop := ∀ k, blkOf A = some k → blkOf A' ≠ some k
theorem Far.symm {A A' : Option Addr} (h : Far A A') : Far A' A := fun k hk hA => h k hA hk
theorem Far.none (A : Option Addr) : Far Option.none A := fun k hk => by cases hk
theorem Far.none' (A : Option Addr) : Far A Option.none := (Far.none A).symm
/-- what stays of a world: all but these blocks -/
structure Stays (w w' : World) (No : Nat → Prop) : Prop where
  os : w'.os = w.os
  tape : w'.tape = w.tape
  output : w'.output = w.output
  size : w.heap.size ≤ w'.heap.size
  block : ∀ k, k < w.heap.size → ¬ No k → w'.heap[k]? = w.heap[k]?
section
variable {w w' w2 : World} {No No2 : Nat → Prop}
theorem Stays.refl (w : World) (No : Nat → Prop) : Stays w w No := ⟨rfl, rfl, rfl, Nat.le_refl _, fun _ _ _ => rfl⟩
theorem Stays.trans (h : Stays w w' No) (h2 : Stays w' w2 No2) (hn : ∀ k, k < w.heap.size → No2 k → No k) : Stays w w2 No :=
  ⟨h2.os.trans h.os, h2.tape.trans h.tape, h2.output.trans h.output, Nat.le_trans h.size h2.size, fun k hk hN => (h2.block k (Nat.lt_of_lt_of_le hk h.size) (fun h3 => hN (hn k hk h3))).trans (h.block k hk hN)⟩
theorem Stays.mono (h : Stays w w' No) (hn : ∀ k, k < w.heap.size → No k → No2 k) : Stays w w' No2 := ⟨h.os, h.tape, h.output, h.size, fun k hk hN => h.block k hk (fun h3 => hN (hn k hk h3))⟩
theorem Stays.grew {A A' : Option Addr} (h : Grew w w' A A') : Stays w w' (fun k => blkOf A = some k) := ⟨h.grown.os, h.grown.tape, h.grown.output, h.grown.size, fun k hk hN => h.grown.block k hk (fun e => hN e.symm)⟩
theorem Stays.set (w : World) (b o : Nat) (v : Value) : Stays w (w.setCell ⟨b, o, Option.none⟩ v) (fun k => k = b) := ⟨rfl, rfl, rfl, by simp [World.setCell], fun k _ hN => Below.heap_setCell w _ _ k hN⟩
theorem Stays.sets (w : World) (b o : Nat) (vs : List Value) : Stays w (w.setCells b o vs) (fun k => k = b) := by
  obtain ⟨h1, h2, h3, h4, h5⟩ := keep_setCells b vs o w
  exact ⟨h2, h3, h4, Nat.le_of_eq h1.symm, fun k _ hN => h5 k hN⟩
theorem Stays.below {B : Nat} (h : Stays w w' No) (hB : B ≤ w.heap.size) (hn : ∀ k, No k → B ≤ k) : Below B w w' := by
  exact ⟨h.os, h.tape, h.output, h.size, fun k hk => h.block k (Nat.lt_of_lt_of_le hk hB) (fun h3 => Nat.lt_irrefl _ (Nat.lt_of_lt_of_le hk (hn k h3)))⟩
section
variable {base n c : Nat} {e : TypeId} {size : Nat} {A : Option Addr} {xs : List Value} {F : Nat} {T : TypeId} {x y z u : Value}
theorem Own.stays (h : Own w base e size A n c xs) (hs : Stays w w' No) (hn : ∀ k, blkOf A = Option.some k → ¬ No k) : Own w' base e size A n c xs := by
  refine ⟨h.1, ?_⟩
  have hlt := h.lt
  rcases h.2 with h2 | ⟨g, cap, cur, h1, h2, h3, h4⟩
  · exact .inl h2
  · simp only [Value.slice.injEq] at h1
    have hg : blkOf A = Option.some g := by rw [h1.1]; rfl
    exact .inr ⟨g, cap, cur, by simp only [Value.slice.injEq]; exact h1, h2, (hs.block g (hlt g hg).2 (hn g hg)).trans h3, h4⟩
theorem Blk4.stays (h : Blk4 w F T x y z u) (hs : Stays w w' No) (hn : ¬ No F) : Blk4 w' F T x y z u := h.same (hs.block F h.lt hn)
/-- a row that grew lies apart from a row that was there -/
theorem Grew.far {A1 B : Option Addr} (h : Grew w w' A A1) (hf : Far A B) (hB : ∀ k, blkOf B = Option.some k → k < w.heap.size) : Far A1 B := by
  intro k hk hb
  rcases h.blk with h1 | ⟨g, hg, h1⟩
  · exact hf k (h1 ▸ hk) hb
  · rw [h1] at hk
    cases hk
    have := hB _ hb
    omega
end
end
theorem Stays.of_below {w w' : World} (h : Below w.heap.size w w') (No : Nat → Prop) : Stays w w' No := ⟨h.os, h.tape, h.output, h.size, fun k hk _ => h.block k hk⟩
theorem Stays.comp {w w1 w2 : World} {No : Nat → Prop} (h : Stays w w1 No) (h2 : Stays w1 w2 No) : Stays w w2 No := h.trans h2 fun _ _ h => h
theorem Stays.join {w w1 w2 : World} {N1 N2 : Nat → Prop} (h : Stays w w1 N1) (h2 : Stays w1 w2 N2) : Stays w w2 (fun k => N1 k ∨ N2 k) := (h.mono (No2 := fun k => N1 k ∨ N2 k) (fun _ _ h => .inl h)).trans h2 (fun _ _ h => .inr h)
end Go.Proofs.Ytdldfllllgogoaa
namespace Go.Proofs.Ytdldfllllgogoaa
open Go.RowKit

/-- the block F holds these cells -/
def BlkA (w : World) (F : Nat) (T : TypeId) (cs : Array Value) : Prop := w.heap[F]? = some (.cells cs T (0, 0))
section
variable {w w' : World} {F : Nat} {T : TypeId} {cs : Array Value} {No : Nat → Prop}
theorem BlkA.lt (h : BlkA w F T cs) : F < w.heap.size := (Array.getElem?_eq_some_iff.1 h).1
theorem BlkA.new (w : World) (T : TypeId) (cs : Array Value) : BlkA (w.alloc (.cells cs T)) w.heap.size T cs := heap_alloc_new w _
theorem BlkA.same (h : BlkA w F T cs) (hk : w'.heap[F]? = w.heap[F]?) : BlkA w' F T cs := hk.trans h
theorem BlkA.next (h : BlkA w F T cs) (hb : Below w.heap.size w w') : BlkA w' F T cs := h.same (hb.block F h.lt)
theorem BlkA.below {B : Nat} (h : BlkA w F T cs) (hb : Below B w w') (hF : F < B) : BlkA w' F T cs := h.same (hb.block F hF)
theorem BlkA.alloc (h : BlkA w F T cs) (o : Obj) : BlkA (w.alloc o) F T cs := h.same (Below.heap_alloc w o F h.lt)
theorem BlkA.drewN (h : BlkA w F T cs) (k : Nat) : BlkA (w.drewN k) F T cs := h
theorem BlkA.drew (h : BlkA w F T cs) : BlkA w.drew F T cs := h
theorem BlkA.kept {row : Option Nat} (h : BlkA w F T cs) (hg : w.grownBy w' row) (hne : row ≠ some F) : BlkA w' F T cs := h.same (hg.block F h.lt (fun e => hne e.symm))
theorem BlkA.setCell (h : BlkA w F T cs) {p : Addr} (hp : p.block ≠ F) (v : Value) : BlkA (w.setCell p v) F T cs := h.same (Below.heap_setCell w p v F (fun e => hp e.symm))
theorem BlkA.stays (h : BlkA w F T cs) (hs : Stays w w' No) (hn : ¬ No F) : BlkA w' F T cs := h.same (hs.block F h.lt hn)
theorem BlkA.get (h : BlkA w F T cs) (j : Nat) : w.cell? ⟨F, j, none⟩ = cs[j]? := cell_of_row w F j _ T (0, 0) h
theorem BlkA.frozen (h : BlkA w F T cs) (j : Nat) : w.frozen? ⟨F, j, none⟩ = false := by
  have h' : w.heap[F]? = some (.cells cs T (0, 0)) := h
  simp [World.frozen?, h']
theorem BlkA.set (h : BlkA w F T cs) (j : Nat) (v : Value) : BlkA (w.setCell ⟨F, j, none⟩ v) F T (cs.set! j v) := heap_setCell_same w F j _ _ _ h
theorem BlkA.apart (h : BlkA w F T cs) {base : Nat} {e : TypeId} {size n c : Nat} {A : Option Addr} {xs : List Value} (ho : Own w base e size A n c xs) (hT : e ≠ T) : blkOf A ≠ some F := by
  intro he
  have h' : w.heap[F]? = some (.cells cs T (0, 0)) := h
  rcases ho.2 with ⟨h1, _⟩ | ⟨g, cap, cur, h1, _, h3, _⟩
  · simp only [Value.slice.injEq] at h1
    rw [h1.1] at he
    cases he
  · simp only [Value.slice.injEq] at h1
    rw [h1.1] at he
    have hg : g = F := by simpa [blkOf] using he
    subst hg
    rw [h'] at h3
    simp only [Option.some.injEq, Obj.cells.injEq] at h3
    exact hT h3.2.1.symm
theorem BlkA.two (h : BlkA w F T cs) {F' : Nat} {T' : TypeId} {cs' : Array Value} (h2 : BlkA w F' T' cs') (hT : T ≠ T') : F ≠ F' := by
  rintro rfl
  have h' : w.heap[F]? = some (.cells cs T (0, 0)) := h
  have h2' : w.heap[F]? = some (.cells cs' T' (0, 0)) := h2
  rw [h'] at h2'
  simp only [Option.some.injEq, Obj.cells.injEq] at h2'
  exact hT h2'.2.1
end
theorem after_alloc {w1 w2 : World} {cs : Array Value} {T : TypeId} (hb : Below (w1.alloc (.cells cs T)).heap.size (w1.alloc (.cells cs T)) w2) : BlkA w2 w1.heap.size T cs ∧ w1.heap.size < w2.heap.size := by
  have h := (BlkA.new w1 T cs).next hb
  exact ⟨h, h.lt⟩
theorem after_allocD {w1 w2 : World} {cs : Array Value} {T : TypeId} (hb : Below (w1.alloc (.cells cs T)).drew.heap.size (w1.alloc (.cells cs T)).drew w2) : BlkA w2 w1.heap.size T cs ∧ w1.heap.size < w2.heap.size := by
  have h := (BlkA.new w1 T cs).drew.next hb
  exact ⟨h, h.lt⟩
theorem after_allocN {w1 w2 : World} {cs : Array Value} {T : TypeId} {k : Nat} (hb : Below ((w1.alloc (.cells cs T)).drewN k).heap.size ((w1.alloc (.cells cs T)).drewN k) w2) : BlkA w2 w1.heap.size T cs ∧ w1.heap.size < w2.heap.size := by
  have h := ((BlkA.new w1 T cs).drewN k).next hb
  exact ⟨h, h.lt⟩
end Go.Proofs.Ytdldfllllgogoaa
namespace Go.Proofs.Ytdldfllllgogoaa
open Go.RowKit
set_option linter.unusedSimpArgs false

def rv.u8v (b : UInt8) : Value := .int .u8 (b.toNat : Int)
/-- the blocks that hold the ranges: of the call's own, not the hearer's, not its bytes' -/
def rv.InM (w : World) (B F : Nat) (D : Option Addr) (k : Nat) : Prop := B ≤ k ∧ k < w.heap.size ∧ k ≠ F ∧ blkOf D ≠ some k
/-- who hears, in the block F -/
structure HAt (w : World) (B F : Nat) (room : Int) (s : rv.St) (D : Option Addr) (dc : Nat) (M : Option Addr) (mc : Nat) : Prop where
  lo : B ≤ F
  blk : BlkA w F 101 #[.int .i64 room, .slice D s.data.length dc, .int .i64 s.done, .slice M s.more.length mc, .int .i64 s.taken, .int .i64 s.end_]
  data : Own w B 5 1 D s.data.length dc (s.data.map rv.u8v)
  more : SlRep Rng.rep w (rv.InM w B F D) s.more M mc
theorem HAt.next {w w' : World} {B F : Nat} {room : Int} {s : rv.St} {D : Option Addr} {dc : Nat} {M : Option Addr} {mc : Nat} (h : HAt w B F room s D dc M mc) (hb : Below w.heap.size w w') : HAt w' B F room s D dc M mc :=
  ⟨h.lo, h.blk.next hb, h.data.next hb, h.more.keep fun k hk => ⟨⟨hk.1, Nat.lt_of_lt_of_le hk.2.1 hb.size, hk.2.2⟩, hb.block k hk.2.1⟩⟩

set_option maxHeartbeats 400000 in
theorem recv_New (room : Int) (w : World) :
    Calls Try.prog 20 #[.int .i64 room] w fun e w' => e = .returned (.pointer (some ⟨w.heap.size, 0, none⟩)) ∧ HAt w' w.heap.size w.heap.size room rv.start none 0 none 0 ∧ Below w.heap.size w w' := by
  go_enter Try.func20, Try.ntmps20
  go_wp2
  go_ret
  exact ⟨rfl, ⟨Nat.le_refl _, BlkA.new _ _ _, Own.nil _ _ _ _, ⟨Nat.le_refl _, by decide, .inl rfl⟩⟩, (by repeat (first | (with_reducible exact Below.refl _ _) | (with_reducible assumption) | (with_reducible refine bset ?_ ?_ _) | (with_reducible refine balloc ?_ _) | (with_reducible refine Below.drew ?_) | (with_reducible refine bdrewN ?_ _) | (with_reducible refine bnext ?_ (by with_reducible assumption)) | exact Nat.le_refl _ | (simp; done) | omega | (simp; omega)))⟩

theorem rv.beyond_nil {s : rv.St} (h : s.more.length = 0) : rv.beyond s = s.done := by
  unfold rv.beyond
  rw [List.eq_nil_of_length_eq_zero h]
  rfl
theorem rv.beyond_last {s : rv.St} (h : 0 < s.more.length) : rv.beyond s = (s.more.getD (s.more.length - 1) Rng.z).hi := by
  unfold rv.beyond
  rcases List.eq_nil_or_concat s.more with e | ⟨o, x, e⟩
  · rw [e] at h; simp at h
  · rw [List.concat_eq_append] at e
    rw [e]
    simp

set_option maxHeartbeats 400000 in
theorem recv_beyond (B F : Nat) (room : Int) (s : rv.St) (D : Option Addr) (dc : Nat) (M : Option Addr) (mc : Nat) (w : World) (h : HAt w B F room s D dc M mc) (hn : s.more.length ≤ 16) :
    Calls Try.prog 70 #[.pointer (some ⟨F, 0, none⟩)] w fun e w' => e = .returned (.int .i64 (rv.beyond s)) ∧ w = w' := by
  have c2 := h.blk.get 2
  have c3 := h.blk.get 3
  simp only [List.getElem?_toArray, List.getElem?_cons_succ, List.getElem?_cons_zero] at c2 c3
  by_cases h0 : s.more.length = 0
  · have HE := Lib.hid (rv.beyond_nil h0)
    rw [h0] at c3
    clear h
    go_enter Try.func70, Try.ntmps70
    go_wp2
    go_ret
    exact ⟨by rw [HE.out]; rfl, rfl⟩
  · have HE := Lib.hid (rv.beyond_last (s := s) (by omega))
    obtain ⟨m, hm⟩ : ∃ m, s.more.length = m + 1 := ⟨s.more.length - 1, by omega⟩
    obtain ⟨bb, o, rfl, _, d1, d2⟩ := Rng.cells_at Rng.z h.more (k := m) (by omega)
    rw [hm] at c3 HE
    rw [show m + 1 - 1 = m by omega] at HE
    have hm1 : (((m + 1 : Nat) : Int)) - 1 = (m : Int) := by omega
    clear h
    generalize (s.more.getD m Rng.z).hi = y at *
    generalize (s.more.getD m Rng.z).lo = x at *
    have hm16 : m ≤ 16 := by omega
    clear h0 hm hn
    go_enter Try.func70, Try.ntmps70
    go_wp2
    go_ret
    exact ⟨by rw [HE.out]; rfl, rfl⟩

def rv.inB (r : Rng) (p : Int) : Bool := decide (r.lo ≤ p) && decide (p < r.hi)
theorem rv.inB_iff {r : Rng} {p : Int} : rv.inB r p = true ↔ had.inR r p := by unfold rv.inB had.inR; simp
set_option maxHeartbeats 400000 in
theorem recv_test (r : Rng) (fr i : Nat) (Bf Bi : Nat) (w : World) (hf : w.cell? ⟨Bf, 0, none⟩ = some (.int .i64 (fr : Int))) (hi : w.cell? ⟨Bi, 0, none⟩ = some (.int .i64 (i : Int))) (h1 : fr ≤ 2000000) (h2 : i ≤ 2000000) (h3 : Bf < w.heap.size) (h4 : Bi < w.heap.size) :
    Calls Try.prog 96 #[.agg #[.int .i64 r.lo, .int .i64 r.hi], .pointer (some ⟨Bf, 0, none⟩), .pointer (some ⟨Bi, 0, none⟩)] w fun e w' => e = .returned (.bool (rv.inB r ((fr + i : Nat) : Int))) ∧ Below w.heap.size w w' := by
  obtain ⟨x, y⟩ := r
  obtain ⟨p, hp⟩ : ∃ p : Nat, p = fr + i := ⟨_, rfl⟩
  have ep : (fr : Int) + (i : Int) = (p : Int) := by omega
  have hpb : p ≤ 4000000 := by omega
  rw [← hp]
  clear hp
  by_cases c1 : x ≤ (p : Int)
  · by_cases c2 : (p : Int) < y
    · have HE : Hid (rv.inB (⟨x, y⟩ : Rng) (p : Int) = true) := Lib.hid (by unfold rv.inB; simp [c1, c2])
      go_enter Try.func96, Try.ntmps96
      go_wp2
      go_ret
      exact ⟨by rw [HE.out]; rfl, (by repeat (first | (with_reducible exact Below.refl _ _) | (with_reducible assumption) | (with_reducible refine bset ?_ ?_ _) | (with_reducible refine balloc ?_ _) | (with_reducible refine Below.drew ?_) | (with_reducible refine bdrewN ?_ _) | (with_reducible refine bnext ?_ (by with_reducible assumption)) | exact Nat.le_refl _ | (simp; done) | omega | (simp; omega)))⟩
    · have HE : Hid (rv.inB (⟨x, y⟩ : Rng) (p : Int) = false) := Lib.hid (by unfold rv.inB; simp [c1]; omega)
      go_enter Try.func96, Try.ntmps96
      go_wp2
      go_ret
      exact ⟨by rw [HE.out]; rfl, (by repeat (first | (with_reducible exact Below.refl _ _) | (with_reducible assumption) | (with_reducible refine bset ?_ ?_ _) | (with_reducible refine balloc ?_ _) | (with_reducible refine Below.drew ?_) | (with_reducible refine bdrewN ?_ _) | (with_reducible refine bnext ?_ (by with_reducible assumption)) | exact Nat.le_refl _ | (simp; done) | omega | (simp; omega)))⟩
  · have HE : Hid (rv.inB (⟨x, y⟩ : Rng) (p : Int) = false) := Lib.hid (by unfold rv.inB; simp; omega)
    go_enter Try.func96, Try.ntmps96
    go_wp2
    go_ret
    exact ⟨by rw [HE.out]; rfl, (by repeat (first | (with_reducible exact Below.refl _ _) | (with_reducible assumption) | (with_reducible refine bset ?_ ?_ _) | (with_reducible refine balloc ?_ _) | (with_reducible refine Below.drew ?_) | (with_reducible refine bdrewN ?_ _) | (with_reducible refine bnext ?_ (by with_reducible assumption)) | exact Nat.le_refl _ | (simp; done) | omega | (simp; omega)))⟩
end Go.Proofs.Ytdldfllllgogoaa
namespace Go.Proofs.Ytdldfllllgogoaa
open Go.RowKit
set_option linter.unusedSimpArgs false

open Classical in
noncomputable def rv.anyB (l : List Rng) (p : Int) : Bool := decide (had.cov l p)
theorem rv.anyB_iff {l : List Rng} {p : Int} : rv.anyB l p = true ↔ had.cov l p := by unfold rv.anyB; simp
theorem rv.any_at {l : List Rng} {p : Int} {k : Nat} (hk : k < l.length) (h : rv.inB (l.getD k Rng.z) p = true) : rv.anyB l p = true := by
  refine rv.anyB_iff.2 ⟨l.getD k Rng.z, ?_, rv.inB_iff.1 h⟩
  rw [List.getD_eq_getElem?_getD, List.getElem?_eq_getElem hk]
  exact List.getElem_mem hk
theorem rv.any_no {l : List Rng} {p : Int} (h : ∀ j, j < l.length → rv.inB (l.getD j Rng.z) p = false) : rv.anyB l p = false := by
  cases hb : rv.anyB l p
  · rfl
  exfalso
  obtain ⟨r, hr, hp⟩ := rv.anyB_iff.1 hb
  obtain ⟨j, hj, rfl⟩ := List.mem_iff_getElem.1 hr
  have := h j hj
  rw [List.getD_eq_getElem?_getD, List.getElem?_eq_getElem hj] at this
  have h2 := rv.inB_iff.2 hp
  simp only [Option.getD_some] at this
  rw [this] at h2
  cases h2
def IdxPost (b : Bool) (w : World) (e : Ending) (w' : World) : Prop := (∃ n : Int, e = .returned (.int .i64 n) ∧ -1 ≤ n ∧ n ≤ 1000 ∧ (0 ≤ n ↔ b = true)) ∧ Below w.heap.size w w'
theorem IdxPost.mk {b : Bool} {w w' : World} {e : Ending} (n : Int) (h : e = .returned (.int .i64 n)) (h1 : -1 ≤ n) (h2 : n ≤ 1000) (h3 : 0 ≤ n ↔ b = true) (hb : Below w.heap.size w w') : IdxPost b w e w' := ⟨⟨n, h, h1, h2, h3⟩, hb⟩
set_option maxHeartbeats 1000000 in
theorem recv_index (l : List Rng) (fr i : Nat) (A : Option Addr) (c Bf Bi : Nat) (w : World) (hl : SlRep Rng.rep w (· < w.heap.size) l A c) (hn : l.length ≤ 16) (hf : w.cell? ⟨Bf, 0, none⟩ = some (.int .i64 (fr : Int))) (hi : w.cell? ⟨Bi, 0, none⟩ = some (.int .i64 (i : Int))) (h1 : fr ≤ 2000000) (h2 : i ≤ 2000000) (h3 : Bf < w.heap.size) (h4 : Bi < w.heap.size) :
    Calls Try.prog 98 #[.slice A l.length c, .func (.func 96) #[] #[.pointer (some ⟨Bf, 0, none⟩), .pointer (some ⟨Bi, 0, none⟩)]] w (IdxPost (rv.anyB l ((fr + i : Nat) : Int)) w) := by
  have HL := Lib.hid hl
  have HFI := Lib.hid (And.intro hf hi)
  have HBL := Lib.hid (And.intro h3 h4)
  have H12 := Lib.hid (And.intro h1 h2)
  clear hl hf hi h3 h4 h1 h2
  obtain ⟨p, hp⟩ : ∃ p : Int, p = ((fr + i : Nat) : Int) := ⟨_, rfl⟩
  have HP := Lib.hid hp
  rw [← hp]
  clear hp
  go_enter Try.func98, Try.ntmps98
  go_wp2
  go_loopw [5, 8] (fun _ i wr => ∃ k : Nat, k ≤ l.length ∧ i = .int .i64 k ∧ Hid (∀ j, j < k → rv.inB (l.getD j Rng.z) p = false) ∧ Below w.heap.size w wr) (fun _ i _ => l.length - (intOf i).toNat)
  case atStart => exact ⟨0, by omega, rfl, Lib.hid (fun j hj => by omega), Below.refl _ _⟩
  case round =>
    obtain ⟨k, hk, rfl, HA, hB⟩ := hrel
    rename World => wr
    by_cases hlt : k < l.length
    · obtain ⟨g, o, rfl, _, hc1, hc2⟩ := Rng.cells_at Rng.z (HL.out.below hB) hlt
      have HN : Hid (rv.inB (l.getD k Rng.z) p = false → ∀ j, j < k + 1 → rv.inB (l.getD j Rng.z) p = false) := Lib.hid (fun h j hj => by
        rcases Nat.lt_or_ge j k with h' | h'
        · exact HA.out j h'
        · obtain rfl : j = k := by omega
          exact h)
      have HY : Hid (rv.inB (l.getD k Rng.z) p = true → rv.anyB l p = true) := Lib.hid (rv.any_at hlt)
      have HC := Lib.hid (fun r : Rng => by
        have h := recv_test r fr i Bf Bi wr ((hB.cell (p := ⟨Bf, 0, none⟩) HBL.out.1).trans HFI.out.1) ((hB.cell (p := ⟨Bi, 0, none⟩) HBL.out.2).trans HFI.out.2) H12.out.1 H12.out.2 (Nat.lt_of_lt_of_le HBL.out.1 hB.size) (Nat.lt_of_lt_of_le HBL.out.2 hB.size)
        rw [← HP.out] at h
        exact h)
      clear HL HA
      generalize l.getD k Rng.z = r at *
      cases hr : rv.inB r p with
      | true =>
        have HT := Lib.hid hr
        have HR := Lib.hid (HY.out hr)
        clear hr
        go_wp2_with (go_at_call 96; ((with_reducible refine (HC.out r).mono ?_); rintro e' w2 ⟨rfl, hb2⟩; rw [HT.out]))
        go_ret
        exact IdxPost.mk k rfl (by omega) (by omega) ⟨fun _ => HR.out, fun _ => by omega⟩ (bnext hB hb2)
      | false =>
        have HT := Lib.hid hr
        have HR := Lib.hid (HN.out hr)
        clear hr
        go_wp2_with (go_at_call 96; ((with_reducible refine (HC.out r).mono ?_); rintro e' w2 ⟨rfl, hb2⟩; rw [HT.out]))
        go_roundw
        case rel => exact ⟨k + 1, by omega, by go_num, Lib.hid HR.out, bnext hB hb2⟩
        case measure => simp [intOf]; omega
    · obtain rfl : k = l.length := by omega
      have HT : Hid (rv.anyB l p = false) := Lib.hid (rv.any_no HA.out)
      clear HA HL
      go_wp2
      go_ret
      exact IdxPost.mk (-1) rfl (by omega) (by omega) ⟨fun h => by omega, fun h => by rw [HT.out] at h; cases h⟩ hB

set_option maxHeartbeats 400000 in
theorem recv_contains (l : List Rng) (fr i : Nat) (A : Option Addr) (c Bf Bi : Nat) (w : World) (hl : SlRep Rng.rep w (· < w.heap.size) l A c) (hn : l.length ≤ 16) (hf : w.cell? ⟨Bf, 0, none⟩ = some (.int .i64 (fr : Int))) (hi : w.cell? ⟨Bi, 0, none⟩ = some (.int .i64 (i : Int))) (h1 : fr ≤ 2000000) (h2 : i ≤ 2000000) (h3 : Bf < w.heap.size) (h4 : Bi < w.heap.size) :
    Calls Try.prog 77 #[.slice A l.length c, .func (.func 96) #[] #[.pointer (some ⟨Bf, 0, none⟩), .pointer (some ⟨Bi, 0, none⟩)]] w fun e w' => e = .returned (.bool (rv.anyB l ((fr + i : Nat) : Int))) ∧ Below w.heap.size w w' := by
  have HI := Lib.hid (recv_index l fr i A c Bf Bi w hl hn hf hi h1 h2 h3 h4)
  clear hl hf hi h1 h2 h3 h4
  generalize rv.anyB l ((fr + i : Nat) : Int) = b at *
  go_enter Try.func77, Try.ntmps77
  go_wp2_with (go_at_call 98; refine HI.out.mono ?_; rintro e w2 ⟨⟨n, rfl, h1, h2, h3⟩, hb2⟩; have H3 := Lib.hid h3; clear h3)
  go_ret
  refine ⟨ret_bool ?_, hb2⟩
  cases b with
  | true => exact decide_eq_true (H3.out.2 rfl)
  | false => exact decide_eq_false (fun h => by have := H3.out.1 h; cases this)
end Go.Proofs.Ytdldfllllgogoaa
namespace Go.Proofs.Ytdldfllllgogoaa
open Go.RowKit

theorem zeroCells_one (z : Value) (hz : z.cells = #[z]) (n : Nat) : Builtin.zeroCells z.cells n = (List.replicate n z).toArray := by
  unfold Builtin.zeroCells
  rw [hz]
  apply Array.ext'
  simp only [List.size_toArray, List.length_singleton, Nat.mul_one, Array.toList_map, Array.toList_range]
  apply List.ext_getElem?
  intro i
  rw [List.getElem?_map]
  by_cases h : i < n
  · rw [List.getElem?_range h, List.getElem?_replicate, if_pos h]
    simp [Nat.mod_one]
  · rw [List.getElem?_eq_none (by simpa using h), List.getElem?_eq_none (by simpa using h)]
    rfl
section
variable {w : World} {base g : Nat} {e : TypeId} {n c : Nat} {xs : List Value}
/-- cells stored right behind what is owned are owned then -/
theorem Own.ext {size : Nat} (h : Own w base e size (Option.some ⟨g, 0, none⟩) n c xs) {vs : List Value} {k : Nat} (hv : vs.length = k * size) (hc : n + k ≤ c) : Own (w.setCells g (n * size) vs) base e size (Option.some ⟨g, 0, none⟩) (n + k) c (xs ++ vs) := by
  have hl := h.len
  refine ⟨by rw [List.length_append, hl, hv, Nat.add_mul], .inr ?_⟩
  rcases h.2 with ⟨h1, _⟩ | ⟨g', cap, cur, h1, h2, h3, h4, h5, h6, h7⟩
  · simp at h1
  · simp only [Value.slice.injEq, Option.some.injEq, Addr.mk.injEq, and_true] at h1
    obtain ⟨rfl, _, rfl⟩ := h1
    have hq : n * size + vs.length ≤ cur.toList.length := by
      have h9 : cur.toList.length = cur.size := Array.length_toList
      rw [h9, h6, hv, ← Nat.add_mul]; exact Nat.mul_le_mul_right _ hc
    refine ⟨g, c, (overl cur.toList (n * size) vs).toArray, rfl, h2, heap_setCells_same g e vs (n * size) w cur h3, hc, h5, ?_, ?_⟩
    · have h8 := overl_len vs cur.toList (n * size)
      simp only [List.size_toArray]
      rw [h8]
      simpa using h6
    · show (overl cur.toList (n * size) vs).take ((n + k) * size) = _
      rw [Nat.add_mul, ← hv, overl_take2 hq, h7]
end
theorem run_appz {P : Program} (w : World) {t tn e : TypeId} (ty : TypeId) {z : Value} {bytes : Nat} (hT : ElemT P t e 1 bytes) (hz : (P.info? e).map (·.zero) = some (some z)) (hzc : z.cells = #[z]) (hz1 : z.oneCell' = true) {kn : IntKind} (htn : P.underlying tn = some (.int kn)) (base : Nat) (A : Option Addr) (n c : Nat) (xs : List Value) (hown : Own w base e 1 A n c xs) (k : Nat) (h0 : 0 < k)
    (hroom : (n + k) * bytes ≤ 140737488355328) (h63 : n + k ≤ 9223372036854775807) (hbase : base ≤ w.heap.size) :
    ∃ A' c' w', (Builtin.append_ #[t, tn] ty #[.slice A n c, .int .i64 k]).run P w = .ok (.slice A' (n + k) c') w' ∧ Own w' base e 1 A' (n + k) c' (xs ++ List.replicate k z) ∧ Grew w w' A A' := by
  obtain ⟨i, z', hi, hzz, hsize, hby, hzs⟩ := hT.info
  have hz' : i.zero = some z := by rw [hi] at hz; simpa using hz
  have hlen := hown.len
  have hcap := hown.cap
  have h48 : k * i.bytes ≤ 281474976710656 := by rw [hby]; have := Nat.mul_le_mul_right bytes (show k ≤ n + k by omega); omega
  by_cases hr : n + k ≤ c
  · rcases hown.2 with ⟨h1, _⟩ | ⟨g, cap, cur, h1, h2, h3, h4, h5, h6, h7⟩
    · simp only [Value.slice.injEq] at h1; omega
    · simp only [Value.slice.injEq] at h1
      obtain ⟨rfl, _, rfl⟩ := h1
      have hx := hown.ext (vs := List.replicate k z) (k := k) (by simp) hr
      have hcur : cur.size = c * 1 := h6
      have hst := run_storeCells_at P g n e (List.replicate k z) 0 cur w h3 (by simp; omega) (fun u hu => by rw [(List.mem_replicate.1 hu).2]; exact hz1)
      have hst2 := run_storeCells_cells (P := P) g n (List.replicate k z) 0 w (fun j hj => by
        rw [cell_of_row w g _ cur e (0, 0) h3]
        simp only [List.length_replicate] at hj
        rw [Array.getElem?_eq_getElem (by omega)]; rfl) (fun j hj => by simp [World.frozen?, h3]) (fun u hu => by rw [(List.mem_replicate.1 hu).2]; exact hz1)
      simp only [Nat.add_zero] at hst2
      refine ⟨some ⟨g, 0, none⟩, c, w.setCells g n (List.replicate k z), ?_, by simpa using hx, ?_⟩
      · have hk : k ≠ 0 := by omega
        have hw : IntKind.i64.wrap (k : Int) = k := by rw [IntKind.wrap_i64]; omega
        have hneg : ¬ ((k : Int) < 0) := by omega
        have h48i : ¬ (281474976710656 < (k : Int) * (i.bytes : Int)) := by rw [← Int.natCast_mul]; omega
        have hzl := zeroCells_one z hzc k
        simp [Builtin.append_, run_underlying hT.und, run_underlying htn, sizeOf, typeInfo, zeroValue, hi, hz', asInt, asIntOf, hw, hneg, h48i, hsize, hk, hr, hzl, addr_add, hst2]
      · obtain ⟨k1, k2, k3, k4, k5⟩ := keep_setCells g (List.replicate k z) n w
        exact ⟨⟨k2, k3, k4, Nat.le_of_eq k1.symm, fun j _ hj => k5 j (fun e => hj (by rw [e]; rfl))⟩, .inl rfl⟩
  · have hfit : Builtin.nextslicecap (n + k) c * i.bytes ≤ 281474976710656 := growslice_fits (by omega) (by rw [hby]; exact hroom)
    have hold : (Builtin.firstCells i.size n (.slice A n c)).run P w.drew = .ok xs.toArray w.drew := by
      rcases hown.2 with ⟨h1, hn0⟩ | ⟨g, cap, cur, h1, h2, h3, h4, h5, h6, h7⟩
      · simp only [Value.slice.injEq] at h1
        obtain ⟨rfl, rfl, rfl⟩ := h1
        have hx0 : xs = [] := List.eq_nil_of_length_eq_zero (by simpa using hlen)
        subst hx0
        exact run_firstCells_none w.drew i.size 0 0 0
      · simp only [Value.slice.injEq] at h1
        obtain ⟨rfl, _, rfl⟩ := h1
        refine run_firstCells_some w.drew i.size n ⟨g, 0, none⟩ n c xs (by rw [hlen, hsize]) (fun j u hu => ?_)
        obtain ⟨g', e1, _, _, hc⟩ := hown.cell hu
        simp only [Option.some.injEq, Addr.mk.injEq, and_true] at e1
        subst e1
        rw [addr_add, Nat.zero_add]
        exact hc
    have hrun := Lib.run_append_grow_zeros (P := P) w t tn ty e i z .i64 kn hT.und htn hi hz' A n c xs hold k h0 (by omega) (by omega) (by omega) h48 hfit
    have hge := grownCap_ge w (n + k) c e
    have hcm : grownCap w (n + k) c e ≤ maxLen := grownCap_le_maxLen w (n + k) c e (by unfold maxLen; omega)
    rw [zeroCells_one z hzc, zeroCells_one z hzc, List.append_toArray, List.append_toArray] at hrun
    refine ⟨_, _, _, hrun, ?_, ?_⟩
    · have h := Own.new w.drew base e 1 (n + k) (grownCap w (n + k) c e) (xs ++ List.replicate k z) (xs ++ List.replicate k z ++ List.replicate (grownCap w (n + k) c e - (n + k)) z) (by simpa using hbase) (by simp; omega) (by simp; omega) hge hcm (by rw [List.take_append_of_le_length (by simp; omega), List.take_of_length_le (by simp; omega)])
      exact h
    · exact ⟨⟨rfl, rfl, rfl, by simp, fun j hj _ => Below.heap_alloc w.drew _ j hj⟩, .inr ⟨w.heap.size, Nat.le_refl _, rfl⟩⟩

theorem wp_appz {P : Program} (w : World) {ops : Array Oper} {rest : List Oper} {o : Oper} {a : Act} {Q : Exit → Act → World → Prop} (hgd : o.guard = none) (s x : Operand) (t tn : TypeId)
    (ho : o.op = .call { callee := .builtin .append, args := #[s, x], argTypes := #[t, tn] }) {e : TypeId} {z : Value} {bytes : Nat} (hT : ElemT P t e 1 bytes) (hz : (P.info? e).map (·.zero) = some (some z)) (hzc : z.cells = #[z]) (hz1 : z.oneCell' = true) {kn : IntKind} (htn : P.underlying tn = some (.int kn)) (base : Nat) (A : Option Addr) (n c : Nat) (xs : List Value) (hs : a.eval s = .slice A n c) (hown : Own w base e 1 A n c xs) (k : Nat) (i : Int) (hx : a.eval x = .int .i64 i) (hi : i = k) (h0 : 0 < k)
    (hroom : (n + k) * bytes ≤ 140737488355328) (h63 : n + k ≤ 9223372036854775807) (hbase : base ≤ w.heap.size)
    (h : ∀ A' c' w', Own w' base e 1 A' (n + k) c' (xs ++ List.replicate k z) → Grew w w' A A' → wpList P ops Q rest (a.put o.dst (.slice A' (n + k) c')) w') : wpList P ops Q (o :: rest) a w := by
  subst hi
  obtain ⟨A', c', w', hr, h2, h3⟩ := run_appz (P := P) w o.type hT hz hzc hz1 htn base A n c xs hown k h0 hroom h63 hbase
  exact wp_run w hgd s x t tn ho hs hx hr (h A' c' w' h2 h3)

/-- bytes copied into a row of one's own, as a step of a region that draws -/
theorem step_copy {P : Program} {ops : Array Oper} {o : Oper} {a : Act} {w : World} {K : Act → World → Prop} {Q : Exit → Act → World → Prop} {E : Prop} (hgd : o.guard = none) (d s : Operand) (dT sT : TypeId)
    (ho : o.op = .call { callee := .builtin .copy, args := #[d, s], argTypes := #[dT, sT] }) {elem : TypeId} {bytes : Nat} (hT : ElemT P dT elem 1 bytes)
    (base : Nat) (A : Option Addr) (n c : Nat) (xs : List Value) (hown : Own w base elem 1 A n c xs) (off dLen dCap sLen sCap : Nat) (sp : Option Addr) (hd : a.eval d = .slice (cutA A c off 1) dLen dCap) (hs : a.eval s = .slice sp sLen sCap)
    (hoff : off ≤ n) (hdl : dLen = n - off) (cs : List Value) (hcs : cs.length = sLen) (hle : sLen ≤ dLen) (hsrc : Cells w sp cs) (h1 : ∀ v ∈ cs, v.oneCell' = true)
    (h : ∀ w', Own w' base elem 1 A n c (xs.take off ++ cs ++ xs.drop (off + cs.length)) → Grew w w' A A → K (a.put o.dst (goInt cs.length)) w') :
    if Region.wanted o (yielded ops a.tmps) = true then Oper.wp P o a w K Q else E := by
  have hw : Region.wanted o (yielded ops a.tmps) = true := by simp [Region.wanted, hgd]
  rw [if_pos hw]
  obtain ⟨i, z, hi, hzz, hsize, hby, hzs⟩ := hT.info
  have hsz : (P.info? elem).map (·.size) = some 1 := by rw [hi]; simp [hsize]
  have hlen := hown.len
  by_cases h0 : cs.length = 0
  · obtain rfl : cs = [] := List.eq_nil_of_length_eq_zero h0
    have hs0 : sLen = 0 := by simpa using hcs.symm
    have hrun := run_copy_none (P := P) w dT sT o.type elem (cutA A c off 1) sp dLen dCap sLen sCap hT.und hsz (by rw [hs0]; exact Nat.zero_min _)
    unfold Oper.wp
    simp [execOp, ho, resolve, invoke, builtin, hd, hs, hrun, Result.andThen]
    exact h w (by simpa using hown) (Grew.refl w A)
  · rcases hsrc with rfl | ⟨b2, o2, rfl, hc2⟩
    · simp at h0
    rcases hown.2 with ⟨k1, _⟩ | ⟨g, cap, cur, k1, k2, k3, k4, k5, k6, k7⟩
    · simp only [Value.slice.injEq] at k1; omega
    · simp only [Value.slice.injEq] at k1
      obtain ⟨rfl, _, rfl⟩ := k1
      have hcut : cutA (some ⟨g, 0, none⟩) c off 1 = some ⟨g, off, none⟩ := by unfold cutA; rw [if_neg (by omega)]; simp [addr_add]
      rw [hcut] at hd
      have hsize2 : cur.size = c := by rw [k6, Nat.mul_one]
      have hq : off + cs.length ≤ cur.toList.length := by
        have h9 : cur.toList.length = cur.size := Array.length_toList
        rw [h9, hsize2, hcs]
        omega
      have hrun := run_copy_cells (P := P) w dT sT o.type elem g off dLen dCap ⟨b2, o2, none⟩ sLen sCap cs hT.und hsz (by show cs.length = min sLen dLen; rw [Nat.min_eq_left hle]; exact hcs) (fun j v hv => by rw [addr_add]; exact hc2 j v hv)
        (fun j hj => by rw [cell_of_row w g _ cur elem (0, 0) k3, Array.getElem?_eq_getElem (by omega)]; rfl) (fun j hj => by simp [World.frozen?, k3]) h1
      unfold Oper.wp
      simp [execOp, ho, resolve, invoke, builtin, hd, hs, hrun, Result.andThen]
      obtain ⟨q1, q2, q3, q4, q5⟩ := keep_setCells g cs off w
      refine h _ ?_ ⟨⟨q2, q3, q4, Nat.le_of_eq q1.symm, fun j _ hj => q5 j (fun e => hj (by rw [e]; rfl))⟩, .inl rfl⟩
      refine ⟨by rw [List.length_append, List.length_append, List.length_take, List.length_drop]; omega, .inr ⟨g, c, (overl cur.toList off cs).toArray, rfl, k2, heap_setCells_same g elem cs off w cur k3, k4, k5, ?_, ?_⟩⟩
      · have := overl_len cs cur.toList off
        simp only [List.size_toArray]
        rw [this]; simpa using k6
      · show (overl cur.toList off cs).take (n * 1) = _
        rw [Nat.mul_one] at k7 ⊢
        rw [← k7]
        apply List.ext_getElem?
        intro j
        rw [List.getElem?_take, overl_get _ _ _ _ hq]
        have hl1 : ((cur.toList.take n).take off).length = off := by rw [List.length_take, List.length_take, Array.length_toList]; omega
        by_cases j1 : j < off
        · rw [if_pos (by omega), if_neg (by omega), List.append_assoc, List.getElem?_append_left (by omega), List.getElem?_take, if_pos j1, List.getElem?_take, if_pos (by omega)]
        · by_cases j2 : j < off + cs.length
          · rw [if_pos (by omega), if_pos (by omega), List.append_assoc, List.getElem?_append_right (by omega), hl1, List.getElem?_append_left (by omega)]
          · rw [if_neg (by omega : ¬ (off ≤ j ∧ j < off + cs.length)), List.append_assoc, List.getElem?_append_right (by omega), hl1, List.getElem?_append_right (by omega), List.getElem?_drop, List.getElem?_take]
            rw [show off + cs.length + (j - off - cs.length) = j by omega]
            try rfl
end Go.Proofs.Ytdldfllllgogoaa
namespace Go.Proofs.Ytdldfllllgogoaa
open Go.RowKit

/-- the play's own blocks, apart from the row A and from what is played with -/
def Aside (w : World) (base : Nat) (A : Option Addr) (Fp : Nat → Prop) (k : Nat) : Prop := base ≤ k ∧ k < w.heap.size ∧ blkOf A ≠ some k ∧ ¬ Fp k
structure Coll {α : Type} (R : Rep α) (w : World) (base : Nat) (T : TypeId) (size : Nat) (A : Option Addr) (n c : Nat) (Fp : Nat → Prop) (L : List α) (xs : List Value) : Prop where
  own : Own w base T size A n c xs
  rows : RowsOf R w (Aside w base A Fp) L xs
  far : ∀ k, blkOf A = some k → ¬ Fp k
section
variable {α : Type} {R : Rep α} {w w' wa w2 : World} {base : Nat} {T : TypeId} {size n c n2 c2 : Nat} {A A2 : Option Addr} {Fp Fp' : Nat → Prop} {L : List α} {xs : List Value}
theorem Coll.nil (w : World) (base : Nat) (T : TypeId) (size : Nat) (Fp : Nat → Prop) : Coll R w base T size none 0 0 Fp [] [] := ⟨Own.nil _ _ _ _, RowsOf.nil, fun k hk => by cases hk⟩
theorem Coll.stays (h : Coll R w base T size A n c Fp L xs) (hs : Stays w w' Fp) (hF : ∀ k, Fp' k → Fp k ∨ w.heap.size ≤ k) : Coll R w' base T size A n c Fp' L xs where
  own := h.own.stays hs h.far
  rows := h.rows.keep fun k hk => ⟨⟨hk.1, Nat.lt_of_lt_of_le hk.2.1 hs.size, hk.2.2.1, fun h2 => (hF k h2).elim hk.2.2.2 (fun h3 => absurd hk.2.1 (Nat.not_lt.2 h3))⟩, hs.block k hk.2.1 hk.2.2.2⟩
  far := fun k hk h2 => (hF k h2).elim (h.far k hk) (fun h3 => absurd (h.own.lt k hk).2 (Nat.not_lt.2 h3))
theorem Coll.next (h : Coll R w base T size A n c Fp L xs) (hb : Below w.heap.size w w') : Coll R w' base T size A n c Fp L xs :=
  h.stays ⟨hb.os, hb.tape, hb.output, hb.size, fun k hk _ => hb.block k hk⟩ fun _ h => .inl h
theorem Coll.push (h : Coll R w base T size A n c Fp L xs) {a : α} {cs : List Value} (ha : R.rep w (Aside w base A Fp) a cs) (hb : Below w.heap.size w wa) (hg : Grew wa w2 A A2) (ho : Own w2 base T size A2 n2 c2 (xs ++ cs)) (hFp : ∀ k, Fp k → k < w.heap.size) : Coll R w2 base T size A2 n2 c2 Fp (L ++ [a]) (xs ++ cs) := by
  have key : ∀ k, Aside w base A Fp k → Aside w2 base A2 Fp k ∧ w2.heap[k]? = w.heap[k]? := fun k hk => by
    have h1 : k < wa.heap.size := Nat.lt_of_lt_of_le hk.2.1 hb.size
    refine ⟨⟨hk.1, Nat.lt_of_lt_of_le h1 hg.grown.size, fun e => ?_, hk.2.2.2⟩, (hg.grown.block k h1 (fun e => hk.2.2.1 e.symm)).trans (hb.block k hk.2.1)⟩
    rcases hg.blk with e1 | ⟨g, hg1, e1⟩
    · exact hk.2.2.1 (e1 ▸ e)
    · rw [e1] at e
      cases e
      omega
  refine ⟨ho, RowsOf.snoc (R.mono ha key) (h.rows.keep key), fun k hk hF => ?_⟩
  rcases hg.blk with e1 | ⟨g, hg1, e1⟩
  · exact h.far k (e1 ▸ hk) hF
  · rw [e1] at hk
    cases hk
    have := hFp _ hF
    have := hb.size
    omega
theorem Coll.rep (h : Coll R w base T size A n c Fp L xs) (hsz : R.size = size) (hpos : 0 < size) : n = L.length ∧ SlRep R w (fun k => base ≤ k ∧ k < w.heap.size) L A c :=
  RowsOf.rep h.rows hsz hpos (fun k hk => ⟨hk.1, hk.2.1⟩) h.own (fun k hk => h.own.lt k hk)
end
/-- a reading that leads to no further blocks is a reading at whatever blocks -/
def Flat {α : Type} (R : Rep α) : Prop := ∀ (w : World) (S S' : Nat → Prop) (a : α) (cs : List Value), R.rep w S a cs → R.rep w S' a cs
theorem flat_int : Flat Rep.int := fun _ _ _ _ _ h => h
theorem flat_u8 : Flat Rep.u8 := fun _ _ _ _ _ h => h
theorem flat_str : Flat Rep.str := fun _ _ _ _ _ h => h
theorem SlRep.tight {α : Type} {R : Rep α} (hR : Flat R) {w : World} {S : Nat → Prop} {l : List α} {A : Option Addr} {c : Nat} (h : SlRep R w S l A c) : SlRep R w (fun k => blkOf A = some k) l A c := by
  obtain ⟨h1, h2, h3⟩ := h
  refine ⟨h1, h2, h3.imp id fun ⟨b, o, e, hb, hr⟩ => ⟨b, o, e, by rw [e]; rfl, fun i a hi => ?_⟩⟩
  obtain ⟨cs, k1, k2⟩ := hr i a hi
  exact ⟨cs, hR _ _ _ _ _ k1, k2⟩
theorem SlRep.within {α : Type} {R : Rep α} {w : World} {S S' : Nat → Prop} {l : List α} {A : Option Addr} {c : Nat} (h : SlRep R w S l A c) (hS : ∀ k, S k → S' k) : SlRep R w S' l A c := h.keep fun k hk => ⟨hS k hk, rfl⟩
end Go.Proofs.Ytdldfllllgogoaa
namespace Go.Proofs.Ytdldfllllgogoaa
open Go.RowKit

/-- two places of a row: the old block, or a new one -/
def Anew (w : World) (A1 A : Option Addr) : Prop := blkOf A1 = blkOf A ∨ ∃ k, w.heap.size ≤ k ∧ blkOf A1 = some k
theorem Anew.refl (w : World) (A : Option Addr) : Anew w A A := .inl rfl
theorem Anew.trans {w w1 : World} {A A1 A2 : Option Addr} (h : Anew w A1 A) (h2 : Anew w1 A2 A1) (hs : w.heap.size ≤ w1.heap.size) : Anew w A2 A := by
  rcases h2 with e | ⟨k, h3, e⟩
  · unfold Anew; rw [e]; exact h
  · exact .inr ⟨k, by omega, e⟩
theorem Anew.of_grew {w w' : World} {A A' : Option Addr} (h : Grew w w' A A') : Anew w A' A := h.blk
theorem Anew.below {w w1 : World} {A A1 : Option Addr} (h : Anew w1 A1 A) (hs : w.heap.size ≤ w1.heap.size) : Anew w A1 A := h.imp id fun ⟨k, a, b⟩ => ⟨k, by omega, b⟩
theorem Anew.inf {w : World} {A A1 : Option Addr} (h : Anew w A1 A) {k : Nat} (hk : blkOf A1 = some k) : blkOf A = some k ∨ w.heap.size ≤ k := by
  rcases h with e | ⟨g, h1, e⟩
  · exact .inl (e ▸ hk)
  · rw [e] at hk; cases hk; exact .inr h1
/-- the row lies where the other one lay, or in a new block, or nowhere -/
def Newer (w : World) (A1 A : Option Addr) : Prop := ∀ k, blkOf A1 = some k → blkOf A = some k ∨ w.heap.size ≤ k
theorem Newer.refl (w : World) (A : Option Addr) : Newer w A A := fun _ h => .inl h
theorem Newer.of {w : World} {A1 A : Option Addr} (h : Anew w A1 A) : Newer w A1 A := fun _ hk => h.inf hk
theorem Newer.trans {w w1 : World} {A A1 A2 : Option Addr} (h : Newer w A1 A) (h2 : Newer w1 A2 A1) (hs : w.heap.size ≤ w1.heap.size) : Newer w A2 A := fun k hk => (h2 k hk).elim (h k) (fun h => .inr (by omega))
theorem Newer.grew {w w' : World} {A A' : Option Addr} (h : Grew w w' A A') : Newer w A' A := Newer.of (Anew.of_grew h)
theorem Stays.grown {w w' : World} {r : Nat} (hg : w.grownBy w' (some r)) : Stays w w' (fun k => k = r) := ⟨hg.os, hg.tape, hg.output, hg.size, fun k hk hn => hg.block k hk (fun e => hn (by cases e; rfl))⟩
end Go.Proofs.Ytdldfllllgogoaa
