/- The plain law of recv: what came, as ranges and as places. No condition. -/
import Derived.Test.YtdldfllllgogoaaAddH
import Derived.Test.YtdldfllllgogoaaSacks3
namespace Go.Proofs.Ytdldfllllgogoaa.rv
open had

/-- the ranges of places from lo on, k of them looked at -/
def runs (P : Int → Bool) (lo : Int) : Nat → List Rng
  | 0 => []
  | k + 1 => if P (lo + k) = true then (match (runs P lo k).getLast? with
      | some x => if x.hi = lo + k then (runs P lo k).dropLast ++ [⟨x.lo, lo + k + 1⟩] else runs P lo k ++ [⟨lo + k, lo + k + 1⟩]
      | none => [⟨lo + k, lo + k + 1⟩]) else runs P lo k
theorem runs_ok (P : Int → Bool) (lo : Int) : ∀ k : Nat, Canon (lo - 1) (runs P lo k) ∧ (∀ x, x ∈ runs P lo k → x.hi ≤ lo + k) ∧ ∀ p, cov (runs P lo k) p ↔ (lo ≤ p ∧ p < lo + k) ∧ P p = true
  | 0 => ⟨trivial, fun x hx => (by cases hx), fun p => ⟨fun h => absurd h (cov_nil p), fun h => (by omega)⟩⟩
  | k + 1 => by
    obtain ⟨h1, h2, h3⟩ := runs_ok P lo k
    have hk : ((k + 1 : Nat) : Int) = (k : Int) + 1 := by omega
    rw [runs, hk]
    generalize runs P lo k = o at *
    generalize ha : lo + (k : Int) = a at *
    have hla : lo ≤ a := by omega
    have e1 : lo + ((k : Int) + 1) = a + 1 := by omega
    rw [e1]
    by_cases hc : P a = true
    · rw [if_pos hc]
      have key : ∀ {o' : List Rng}, (∀ p, cov o' p ↔ cov o p ∨ (a ≤ p ∧ p < a + 1)) → ∀ p, cov o' p ↔ (lo ≤ p ∧ p < a + 1) ∧ P p = true := fun {o'} ho p => by
        rw [ho, h3]
        constructor
        · rintro (⟨⟨e1, e2⟩, e3⟩ | ⟨e1, e2⟩)
          · exact ⟨⟨e1, by omega⟩, e3⟩
          · obtain rfl : p = a := by omega
            exact ⟨⟨by omega, e2⟩, hc⟩
        · rintro ⟨⟨e1, e2⟩, e3⟩
          by_cases e4 : p < a
          · exact .inl ⟨⟨e1, e4⟩, e3⟩
          · exact .inr ⟨by omega, e2⟩
      rcases List.eq_nil_or_concat o with rfl | ⟨o', x, ho⟩
      · simp only [List.getLast?_nil]
        refine ⟨⟨by simp only; omega, by simp only; omega, trivial⟩, fun y hy => ?_, key fun p => ?_⟩
        · simp at hy; subst hy; exact Int.le_refl _
        · rw [cov_cons]; simp only [cov_nil, or_false, false_or]; rfl
      · subst ho
        rw [List.concat_eq_append] at *
        simp only [List.getLast?_append, List.getLast?_singleton, Option.some_or]
        have hxl := h1.mem x (by simp)
        have hxa := h2 x (by simp)
        by_cases e : x.hi = a
        · rw [if_pos e, List.dropLast_concat]
          refine ⟨h1.stretch (by omega), fun y hy => ?_, key fun p => ?_⟩
          · rcases List.mem_append.1 hy with hy | hy
            · have := h2 y (by simp [hy]); omega
            · simp at hy; subst hy; exact Int.le_refl _
          · rw [cov_app, cov_app, cov_cons, cov_cons]
            simp only [cov_nil, or_false, or_assoc]
            refine or_congr Iff.rfl ?_
            unfold inR
            simp only
            omega
        · rw [if_neg e]
          refine ⟨h1.snoc (by simp only; omega) (fun y hy => ?_) (by simp only; omega), fun y hy => ?_, key fun p => ?_⟩
          · rcases List.mem_append.1 hy with hy' | hy'
            · have e1 := h1.lastlo y hy'
              simp only
              omega
            · simp at hy'; subst hy'; simp only; omega
          · rcases List.mem_append.1 hy with hy | hy
            · have := h2 y hy; omega
            · simp at hy; subst hy; exact Int.le_refl _
          · rw [cov_app, cov_cons]
            simp only [cov_nil, or_false]
            rfl
    · rw [if_neg hc]
      refine ⟨h1, fun y hy => by have := h2 y hy; omega, fun p => ?_⟩
      rw [h3]
      constructor
      · rintro ⟨⟨e1, e2⟩, e3⟩
        exact ⟨⟨e1, by omega⟩, e3⟩
      · rintro ⟨⟨e1, e2⟩, e3⟩
        by_cases e4 : p < a
        · exact ⟨⟨e1, e4⟩, e3⟩
        · obtain rfl : p = a := by omega
          exact absurd e3 hc

/-- who hears -/
structure St where
  done : Int
  more : List Rng
  taken : Int
  end_ : Int
  data : List UInt8
def start : St := ⟨0, [], 0, -1, []⟩
def came (s : St) (n : Int) : Prop := (0 ≤ n ∧ n < s.done) ∨ cov s.more n
theorem chain_of : ∀ (l : List Rng) (done : Int), Canon done l → Chain done l l.length
  | [], _, _ => fun i hi => by simp at hi
  | r :: l, done, h => by
    intro i hi
    cases i with
    | zero => exact ⟨by simpa [endAt] using h.1, by simpa using h.2.1⟩
    | succ i =>
      have h1 := chain_of l r.hi h.2.2 i (by simpa using hi)
      rw [endAt_succ]
      cases i with
      | zero => simpa [endAt] using h1
      | succ i => rw [endAt_succ] at h1; simpa using h1
theorem may_of {done : Int} {l : List Rng} (hc : Canon done l) (h0 : 0 ≤ done) (h1 : done ≤ 1048576) (hl : l.length ≤ 16) (hh : ∀ r, r ∈ l → r.hi ≤ 1048576) : HoleMay done l := by
  refine ⟨h0, h1, hl, chain_of l done hc, ?_⟩
  unfold endAt
  split
  · exact h1
  · next hne =>
    have hi : l.length - 1 < l.length := by omega
    rw [List.getD_eq_getElem?_getD, List.getElem?_eq_getElem hi]
    exact hh _ (List.getElem_mem hi)
/-- what holds of it -/
structure Inv (room : Int) (s : St) : Prop where
  lo : 0 ≤ s.taken ∧ s.taken ≤ s.done ∧ s.done ≤ s.taken + room
  canon : Canon s.done s.more
  few : s.more.length ≤ 16
  top : s.done ≤ 1048575
  hi : ∀ r, r ∈ s.more → r.hi ≤ s.taken + room ∧ r.hi ≤ 1048575
  fin : s.end_ = -1 ∨ 0 ≤ s.end_ ∧ s.end_ < 1048576
  len : s.done ≤ s.data.length ∧ ∀ r, r ∈ s.more → r.hi ≤ s.data.length
theorem Inv.may {room : Int} {s : St} (h : Inv room s) : HoleMay s.done s.more := may_of h.canon (by have := h.lo; omega) (by have := h.top; omega) h.few fun r hr => by have := (h.hi r hr).2; omega
open Classical in
/-- the places' bytes -/
noncomputable def bytesOf (s : St) (n : Int) : Option UInt8 := if came s n then some (s.data.getD n.toNat 0) else none
theorem bytesOf_some {s : St} {n : Int} : bytesOf s n ≠ none ↔ came s n := by
  unfold bytesOf
  by_cases h : came s n
  · simp [h]
  · simp [h]
/-- the ranges that a map of places tells are those held -/
theorem runs_more {room : Int} {s : St} (h : Inv room s) {P : Int → Bool} (hP : ∀ n, P n = true ↔ came s n) {k : Nat} (hk : s.taken + room + 1 ≤ s.done + k) : runs P s.done k = s.more := by
  obtain ⟨h1, h2, h3⟩ := runs_ok P s.done k
  refine ext h1 h.canon fun p => ?_
  rw [h3, hP]
  unfold came
  constructor
  · rintro ⟨⟨e1, e2⟩, e3 | e3⟩
    · omega
    · exact e3
  · intro hc
    obtain ⟨r, hr, hp⟩ := hc
    have a1 := h.canon.mem r hr
    have a2 := (h.hi r hr).1
    have a3 := hp.1
    have a4 := hp.2
    exact ⟨⟨by omega, by omega⟩, .inr ⟨r, hr, hp⟩⟩
/-- the first place that did not come -/
theorem low_not {room : Int} {s : St} (h : Inv room s) : ¬ came s s.done := by
  rintro (e | ⟨r, hr, hp⟩)
  · omega
  · have := (h.canon.mem r hr).1
    have := hp.1
    omega
theorem Inv.start {room : Int} (h : 1 ≤ room) : Inv room start := ⟨by show (0 : Int) ≤ 0 ∧ (0 : Int) ≤ 0 ∧ (0 : Int) ≤ 0 + room; omega, trivial, by decide, by decide, fun r hr => (by cases hr), .inl rfl, by decide, fun r hr => (by cases hr)⟩

/-! ### What an arrival does -/
def to_ (a : Arrival) : Int := a.from_ + a.data.length
def beyond (s : St) : Int := match s.more.getLast? with
  | some r => r.hi
  | none => s.done
/-- bytes laid where none came -/
noncomputable def putAll (more : List Rng) (fr : Nat) (b : List UInt8) : Nat → List UInt8 → List UInt8
  | 0, d => d
  | k + 1, d => open Classical in if cov more (fr + k : Nat) then putAll more fr b k d else (putAll more fr b k d).set (fr + k) (b.getD k 0)
noncomputable def kept (more : List Rng) (d : List UInt8) (fr : Nat) (b : List UInt8) : List UInt8 := putAll more fr b b.length (d ++ List.replicate (fr + b.length - d.length) 0)
def frOf (s : St) (a : Arrival) : Int := max a.from_ s.done
def upOf (room : Int) (s : St) (a : Arrival) : Int := min (to_ a) (s.taken + room)
def part (room : Int) (s : St) (a : Arrival) : List UInt8 := (a.data.drop (frOf s a - a.from_).toNat).take (upOf room s a - frOf s a).toNat
noncomputable def arrive (room : Int) (s : St) (a : Arrival) : Int × St :=
  if a.from_ < 0 ∨ 1048576 ≤ a.from_ ∨ 1048576 ≤ to_ a then (2, s)
  else if 64 < a.data.length then (1, s)
  else if (0 ≤ s.end_ ∧ (s.end_ < to_ a ∨ a.fin = true ∧ to_ a ≠ s.end_)) ∨ a.fin = true ∧ to_ a < beyond s then (10, s)
  else if frOf s a < upOf room s a then
    (if 16 < (addTo s.done s.more ⟨frOf s a, upOf room s a⟩).2.length then (9, s)
     else (0, { s with done := (addTo s.done s.more ⟨frOf s a, upOf room s a⟩).1, more := (addTo s.done s.more ⟨frOf s a, upOf room s a⟩).2, data := kept s.more s.data (frOf s a).toNat (part room s a), end_ := if a.fin = true then to_ a else s.end_ }))
  else (0, { s with end_ := if a.fin = true then to_ a else s.end_ })
def takeOf (s : St) (count : Int) : Nat := (min count (s.done - s.taken)).toNat
/-- one arrival: code, data, whether the end was taken, and who hears behind it; what was last -/
noncomputable def step (room : Int) (s : St) (a : Arrival) : Told × St :=
  if a.kind = 1 then (⟨(arrive room s a).1, 0, 0, [], [], false⟩, (arrive room s a).2)
  else if a.kind = 2 then
    (if a.count < 0 ∨ 4096 < a.count then (⟨2, 0, 0, [], [], false⟩, s)
     else (⟨0, 0, 0, [], (s.data.drop s.taken.toNat).take (takeOf s a.count), decide (s.taken + takeOf s a.count = s.end_)⟩, { s with taken := s.taken + takeOf s a.count }))
  else (⟨3, 0, 0, [], [], false⟩, s)
def lastOf (a : Arrival) : Int := if a.kind = 1 then a.from_ else -1
noncomputable def doIt (room : Int) (s : St) (a : Arrival) : Told × St :=
  let r := step room s a
  (⟨r.1.code, if r.2.done = r.2.end_ then r.2.done + 1 else r.2.done, r.2.taken + room - r.2.done, sacks (lastOf a) 3 r.2.more, r.1.data, r.1.end_⟩, r.2)
/-- so many arrivals heard -/
noncomputable def after (room : Int) (l : List Arrival) : Nat → List Told × St
  | 0 => ([], start)
  | k + 1 => match l[k]? with
    | some a => ((after room l k).1 ++ [(doIt room (after room l k).2 a).1], (doIt room (after room l k).2 a).2)
    | none => after room l k
theorem cov_bound {d : Int} {l : List Rng} (hd : 0 ≤ d) (hl : Canon d l) {B : Int} : (∀ p, cov (full d l) p → p < B) → 0 ≤ B → d ≤ B ∧ ∀ r, r ∈ l → r.hi ≤ B := by
  intro h hB
  constructor
  · by_cases e : d = 0
    · omega
    · have := h (d - 1) (cov_full.2 (.inl ⟨by omega, by omega⟩)); omega
  · intro r hr
    have h1 := hl.mem r hr
    have := h (r.hi - 1) (cov_full.2 (.inr ⟨r, hr, by omega, by omega⟩))
    omega
/-- what holds goes on to hold: bytes came -/
theorem Inv.add {room : Int} {s : St} (h : Inv room s) {fr up e : Int} {d : List UInt8} (h0 : 0 ≤ fr) (h1 : fr < up) (h2 : up ≤ s.taken + room) (h3 : up ≤ 1048575) (hl : (addTo s.done s.more ⟨fr, up⟩).2.length ≤ 16) (he : e = -1 ∨ 0 ≤ e ∧ e < 1048576) (hdl : s.data.length ≤ d.length ∧ up ≤ d.length) :
    Inv room { s with done := (addTo s.done s.more ⟨fr, up⟩).1, more := (addTo s.done s.more ⟨fr, up⟩).2, data := d, end_ := e } := by
  obtain ⟨a1, a2, a3⟩ := addTo_ok (r := ⟨fr, up⟩) (by have := h.lo; omega) h.canon h0 (by simp only; omega)
  have hlo := h.lo
  have b1 := cov_bound a1 a2 (B := s.taken + room) (fun p hp => by
    rcases (a3 p).1 hp with e | ⟨r, hr, e⟩ | e
    · omega
    · have := (h.hi r hr).1; have := e.2; omega
    · have := e.2; simp only at this; omega) (by omega)
  have b2 := cov_bound a1 a2 (B := 1048575) (fun p hp => by
    rcases (a3 p).1 hp with e | ⟨r, hr, e⟩ | e
    · have := h.top; omega
    · have := (h.hi r hr).2; have := e.2; omega
    · have := e.2; simp only at this; omega) (by omega)
  have b3 := cov_bound a1 a2 (B := d.length) (fun p hp => by
    rcases (a3 p).1 hp with e | ⟨r, hr, e⟩ | e
    · have := h.len.1; omega
    · have := h.len.2 r hr; have := e.2; omega
    · have := e.2; simp only at this; omega) (by omega)
  have c1 : s.done ≤ (addTo s.done s.more ⟨fr, up⟩).1 := by
    by_cases hx : (addTo s.done s.more ⟨fr, up⟩).1 < s.done
    · exfalso
      have := (a3 (addTo s.done s.more ⟨fr, up⟩).1).2 (.inl ⟨a1, hx⟩)
      rcases cov_full.1 this with e | ⟨r, hr, e⟩
      · omega
      · have := (a2.mem r hr).1; have := e.1; omega
    · omega
  exact ⟨⟨by simp only; omega, by simp only; omega, by simp only; omega⟩, a2, hl, b2.1, fun r hr => ⟨b1.2 r hr, b2.2 r hr⟩, he, b3⟩
theorem putAll_len (more : List Rng) (fr : Nat) (b : List UInt8) (d : List UInt8) : ∀ k, (putAll more fr b k d).length = d.length
  | 0 => rfl
  | k + 1 => by
    rw [putAll]
    split
    · exact putAll_len more fr b d k
    · rw [List.length_set]; exact putAll_len more fr b d k
theorem kept_len (more : List Rng) (d : List UInt8) (fr : Nat) (b : List UInt8) : (kept more d fr b).length = max d.length (fr + b.length) := by
  unfold kept
  rw [putAll_len, List.length_append, List.length_replicate]
  omega
open Classical in
theorem putAll_at (more : List Rng) (fr : Nat) (b : List UInt8) (d : List UInt8) (n : Nat) : ∀ k, fr + k ≤ d.length → (putAll more fr b k d).getD n 0 = if (fr ≤ n ∧ n < fr + k) ∧ ¬ cov more (n : Int) then b.getD (n - fr) 0 else d.getD n 0
  | 0, _ => by rw [putAll, if_neg (by omega)]
  | k + 1, hk => by
    have ih := putAll_at more fr b d n k (by omega)
    have hl := putAll_len more fr b d k
    rw [putAll]
    by_cases hc : cov more ((fr + k : Nat) : Int)
    · rw [if_pos hc, ih]
      by_cases e : n = fr + k
      · subst e
        rw [if_neg (fun x => x.2 hc), if_neg (fun x => x.2 hc)]
      · have : ((fr ≤ n ∧ n < fr + k) ∧ ¬ cov more (n : Int)) ↔ ((fr ≤ n ∧ n < fr + (k + 1)) ∧ ¬ cov more (n : Int)) := by
          constructor
          · rintro ⟨x, y⟩; exact ⟨by omega, y⟩
          · rintro ⟨x, y⟩; exact ⟨by omega, y⟩
        simp only [this]
    · rw [if_neg hc]
      by_cases e : n = fr + k
      · subst e
        rw [if_pos ⟨by omega, hc⟩, List.getD_eq_getElem?_getD, List.getElem?_set_self (by omega), show fr + k - fr = k by omega]
        rfl
      · rw [List.getD_eq_getElem?_getD, List.getElem?_set_ne (by omega), ← List.getD_eq_getElem?_getD, ih]
        have : ((fr ≤ n ∧ n < fr + k) ∧ ¬ cov more (n : Int)) ↔ ((fr ≤ n ∧ n < fr + (k + 1)) ∧ ¬ cov more (n : Int)) := by
          constructor
          · rintro ⟨x, y⟩; exact ⟨by omega, y⟩
          · rintro ⟨x, y⟩; exact ⟨by omega, y⟩
        simp only [this]
open Classical in
theorem kept_at (more : List Rng) (d : List UInt8) (fr : Nat) (b : List UInt8) (n : Nat) : (kept more d fr b).getD n 0 = if (fr ≤ n ∧ n < fr + b.length) ∧ ¬ cov more (n : Int) then b.getD (n - fr) 0 else d.getD n 0 := by
  unfold kept
  rw [putAll_at more fr b _ n b.length (by rw [List.length_append, List.length_replicate]; omega)]
  congr 1
  rw [List.getD_eq_getElem?_getD, List.getD_eq_getElem?_getD]
  by_cases h : n < d.length
  · rw [List.getElem?_append_left h]
  · rw [List.getElem?_append_right (by omega), List.getElem?_eq_none (by omega : d.length ≤ n), List.getElem?_replicate]
    split <;> rfl
open Classical in
/-- the places' bytes when bytes came -/
theorem bytes_add {room : Int} {s : St} (h : Inv room s) {fr up e : Int} {b : List UInt8} (h0 : s.done ≤ fr) (h1 : fr < up) (hb : (b.length : Int) = up - fr) (n : Int) :
    bytesOf { s with done := (addTo s.done s.more ⟨fr, up⟩).1, more := (addTo s.done s.more ⟨fr, up⟩).2, data := kept s.more s.data fr.toNat b, end_ := e } n = if came s n then bytesOf s n else if fr ≤ n ∧ n < up then some (b.getD (n - fr).toNat 0) else none := by
  obtain ⟨a1, a2, a3⟩ := addTo_ok (r := ⟨fr, up⟩) (by have := h.lo; omega) h.canon (by have := h.lo; simp only; omega) (by simp only; omega)
  have hlo := h.lo
  have hcame : came { s with done := (addTo s.done s.more ⟨fr, up⟩).1, more := (addTo s.done s.more ⟨fr, up⟩).2, data := kept s.more s.data fr.toNat b, end_ := e } n ↔ came s n ∨ (fr ≤ n ∧ n < up) := by
    have h3 := a3 n
    rw [cov_full] at h3
    unfold came
    simp only
    rw [h3, or_assoc]
    rfl
  unfold bytesOf
  by_cases hc : came s n
  · rw [if_pos (hcame.2 (.inl hc)), if_pos hc, if_pos hc]
    simp only
    congr 1
    rw [kept_at, if_neg]
    rintro ⟨⟨e1, e2⟩, e3⟩
    rcases hc with ⟨e4, e5⟩ | e4
    · omega
    · have hn : ((n.toNat : Nat) : Int) = n := by
        obtain ⟨r, hr, hp⟩ := e4
        have := (h.canon.mem r hr).1
        have := hp.1
        omega
      rw [hn] at e3
      exact e3 e4
  · rw [if_neg hc]
    by_cases hf : fr ≤ n ∧ n < up
    · have hn : ((n.toNat : Nat) : Int) = n := by omega
      rw [if_pos (hcame.2 (.inr hf)), if_pos hf]
      simp only
      rw [kept_at, if_pos ⟨⟨by omega, by omega⟩, by rw [hn]; exact fun x => hc (.inr x)⟩, show n.toNat - fr.toNat = (n - fr).toNat by omega]
    · rw [if_neg (fun x => (hcame.1 x).elim hc hf), if_neg hf]
end Go.Proofs.Ytdldfllllgogoaa.rv
