/- The reference of recv: what its map is as an arrival is heard, in plain words. No condition. -/
import Derived.Test.YtdldfllllgogoaaRecvR4
import Derived.Test.YtdldfllllgogoaaRecv4
import Derived.Test.YtdldfllllgogoaaMapR
namespace Go.Proofs.Ytdldfllllgogoaa.rv
open had

/-- the reference's map -/
noncomputable def mapF (s : St) : Int → Option Value := fun k => (bytesOf s k).map u8v
theorem mapF_came {s : St} {k : Int} : mapF s k ≠ none ↔ came s k := by
  unfold mapF
  rw [← bytesOf_some]
  cases bytesOf s k <;> simp
theorem mapF_none {s : St} {k : Int} : mapF s k = none ↔ ¬ came s k := by
  rw [← mapF_came]
  simp
theorem isP_came {s : St} {k : Int} : isP (mapF s) k = true ↔ came s k := by
  rw [← mapF_came]
  unfold isP
  cases mapF s k <;> simp
theorem mapF_u8 {s : St} {k : Int} {v : Value} (h : mapF s k = some v) : ∃ b : UInt8, v = .int .u8 (b.toNat : Int) := by
  unfold mapF at h
  obtain ⟨b, _, rfl⟩ := Option.map_eq_some_iff.1 h
  exact ⟨b, rfl⟩
/-- the ranges that a map of places tells are those held -/
theorem runs_eq {d t : Int} {m : List Rng} {P : Int → Bool} (h0 : 0 ≤ d) (hc : Canon d m) (hh : ∀ r, r ∈ m → r.hi ≤ t) (hP : ∀ n, P n = true ↔ (0 ≤ n ∧ n < d) ∨ cov m n) {k : Nat} (hk : t + 1 ≤ d + k) : runs P d k = m := by
  obtain ⟨h1, h2, h3⟩ := runs_ok P d k
  refine ext h1 hc fun p => ?_
  rw [h3, hP]
  constructor
  · rintro ⟨⟨e1, e2⟩, e3 | e3⟩
    · omega
    · exact e3
  · intro hcv
    obtain ⟨r, hr, hp⟩ := hcv
    have a1 := hc.mem r hr
    have a2 := hh r hr
    have a3 := hp.1
    have a4 := hp.2
    exact ⟨⟨by omega, by omega⟩, .inr ⟨r, hr, hp⟩⟩
theorem low_not' {s : St} (hc : Canon s.done s.more) : ¬ came s s.done := by
  rintro (e | ⟨r, hr, hp⟩)
  · omega
  · have := (hc.mem r hr).1
    have := hp.1
    omega
open Classical in
/-- the map when so many bytes were looked at -/
noncomputable def fill (room : Int) (s : St) (a : Arrival) (i : Nat) : Int → Option Value := fun k => if ¬ came s k ∧ frOf s a ≤ k ∧ k < upOf room s a ∧ k < a.from_ + i then some (u8v (a.data.getD (k - a.from_).toNat 0)) else mapF s k
theorem fill_zero {room : Int} {s : St} {a : Arrival} : fill room s a 0 = mapF s := by
  funext k
  unfold fill
  rw [if_neg]
  rintro ⟨_, h1, _, h2⟩
  unfold frOf at h1
  omega
theorem fill_at {room : Int} {s : St} {a : Arrival} {i : Nat} : fill room s a i (a.from_ + i) = mapF s (a.from_ + i) := by
  unfold fill
  rw [if_neg]
  rintro ⟨_, _, _, h2⟩
  omega
theorem fill_skip {room : Int} {s : St} {a : Arrival} {i : Nat} (h : ¬ (¬ came s (a.from_ + i) ∧ s.done ≤ a.from_ + i ∧ a.from_ + i < s.taken + room)) : fill room s a (i + 1) = fill room s a i := by
  funext k
  unfold fill
  by_cases hk : k = a.from_ + i
  · subst hk
    rw [if_neg, if_neg]
    · rintro ⟨_, _, _, h2⟩; omega
    · rintro ⟨h1, h2, h3, _⟩
      unfold frOf at h2
      unfold upOf at h3
      exact h ⟨h1, by omega, by omega⟩
  · by_cases hc : ¬ came s k ∧ frOf s a ≤ k ∧ k < upOf room s a ∧ k < a.from_ + (i : Int)
    · rw [if_pos ⟨hc.1, hc.2.1, hc.2.2.1, by omega⟩, if_pos hc]
    · rw [if_neg (fun x => hc ⟨x.1, x.2.1, x.2.2.1, by omega⟩), if_neg hc]
theorem fill_put {room : Int} {s : St} {a : Arrival} {i : Nat} (hi : i < a.data.length) (h1 : ¬ came s (a.from_ + i)) (h2 : s.done ≤ a.from_ + i) (h3 : a.from_ + i < s.taken + room) : fill room s a (i + 1) = fun k => if k = a.from_ + i then some (u8v (a.data.getD i 0)) else fill room s a i k := by
  funext k
  unfold fill
  by_cases hk : k = a.from_ + i
  · subst hk
    rw [if_pos rfl, if_pos ⟨h1, by unfold frOf; omega, by unfold upOf to_; omega, by omega⟩, show (a.from_ + (i : Int) - a.from_).toNat = i by omega]
  · rw [if_neg hk]
    by_cases hc : ¬ came s k ∧ frOf s a ≤ k ∧ k < upOf room s a ∧ k < a.from_ + (i : Int)
    · rw [if_pos ⟨hc.1, hc.2.1, hc.2.2.1, by omega⟩, if_pos hc]
    · rw [if_neg (fun x => hc ⟨x.1, x.2.1, x.2.2.1, by omega⟩), if_neg hc]
/-- who hears when the bytes came -/
noncomputable def filled (room : Int) (s : St) (a : Arrival) : St := if frOf s a < upOf room s a then { s with done := (addTo s.done s.more ⟨frOf s a, upOf room s a⟩).1, more := (addTo s.done s.more ⟨frOf s a, upOf room s a⟩).2, data := kept s.more s.data (frOf s a).toNat (part room s a) } else s
structure Filled (room : Int) (s : St) (a : Arrival) (s1 : St) : Prop where
  tk : s1.taken = s.taken
  en : s1.end_ = s.end_
  lo : s.taken ≤ s1.done ∧ s1.done ≤ s.taken + room
  map : fill room s a a.data.length = mapF s1
  low : ∀ k, s.taken ≤ k → k < s1.done → mapF s1 k ≠ none
  notlow : mapF s1 s1.done = none
  runs : ∀ K : Nat, s.taken + room + 1 = s1.done + K → runs (isP (mapF s1)) s1.done K = s1.more
theorem filled_ok {room : Int} {s : St} (h : Inv room s) (a : Arrival) : Filled room s a (filled room s a) := by
  have hlo := h.lo
  unfold filled
  split
  · next hlt =>
    have hfr : s.done ≤ frOf s a := by unfold frOf; omega
    have hup : upOf room s a ≤ s.taken + room := by unfold upOf; omega
    have hpl := part_len hlt
    have hup2 : upOf room s a ≤ to_ a := by unfold upOf; omega
    unfold to_ at hup2
    obtain ⟨a1, a2, a3⟩ := addTo_ok (r := ⟨frOf s a, upOf room s a⟩) (by omega) h.canon (by simp only; omega) (by simp only; omega)
    have hba := fun n => bytes_add h (fr := frOf s a) (up := upOf room s a) (e := s.end_) (b := part room s a) hfr hlt hpl n
    have b1 := cov_bound a1 a2 (B := s.taken + room) (fun p hp => by
      rcases (a3 p).1 hp with e | ⟨r, hr, e⟩ | e
      · omega
      · have := (h.hi r hr).1; have := e.2; omega
      · have := e.2; simp only at this; omega) (by omega)
    have c1 : s.done ≤ (addTo s.done s.more ⟨frOf s a, upOf room s a⟩).1 := by
      by_cases hx : (addTo s.done s.more ⟨frOf s a, upOf room s a⟩).1 < s.done
      · exfalso
        have := (a3 (addTo s.done s.more ⟨frOf s a, upOf room s a⟩).1).2 (.inl ⟨a1, hx⟩)
        rcases cov_full.1 this with e | ⟨r, hr, e⟩
        · omega
        · have := (a2.mem r hr).1; have := e.1; omega
      · omega
    refine ⟨rfl, rfl, ⟨by simp only; omega, b1.1⟩, ?_, fun k h1 h2 => mapF_came.2 (.inl ⟨by omega, h2⟩), mapF_none.2 (low_not' a2), fun K hK => runs_eq a1 a2 b1.2 (fun n => isP_came) (by simp only at hK; omega)⟩
    funext k
    unfold fill
    unfold mapF
    rw [hba k]
    by_cases hc : came s k
    · rw [if_neg (fun x => x.1 hc), if_pos hc]
    · rw [if_neg hc]
      by_cases hf : frOf s a ≤ k ∧ k < upOf room s a
      · rw [if_pos ⟨hc, hf.1, hf.2, by omega⟩, if_pos hf]
        simp only [Option.map_some, Option.some.injEq]
        congr 1
        unfold part
        have hfa : a.from_ ≤ frOf s a := by unfold frOf; omega
        rw [List.getD_eq_getElem?_getD, List.getD_eq_getElem?_getD, List.getElem?_take, if_pos (by omega), List.getElem?_drop, show (frOf s a - a.from_).toNat + (k - frOf s a).toNat = (k - a.from_).toNat by omega]
      · rw [if_neg (fun x => hf ⟨x.2.1, x.2.2.1⟩), if_neg hf]
        unfold bytesOf
        rw [if_neg hc]
  · next hlt =>
    refine ⟨rfl, rfl, ⟨by omega, by omega⟩, ?_, fun k h1 h2 => mapF_came.2 (.inl ⟨by omega, h2⟩), mapF_none.2 (low_not h), fun K hK => runs_eq (by omega) h.canon (fun r hr => (h.hi r hr).1) (fun n => isP_came) (by omega)⟩
    funext k
    unfold fill
    rw [if_neg]
    rintro ⟨_, h1, h2, _⟩
    omega
theorem arrive_filled {room : Int} {s : St} {a : Arrival} (hi : Inv room s) (h : ¬ (a.from_ < 0 ∨ 1048576 ≤ a.from_ ∨ 1048576 ≤ a.from_ + a.data.length)) (h2 : ¬ 64 < a.data.length) (h3 : Pass s (to_ a) a.fin) :
    arrive room s a = if 16 < (filled room s a).more.length then (9, s) else (0, { filled room s a with end_ := if a.fin = true then to_ a else s.end_ }) := by
  rw [arrive_past h h2 h3]
  unfold filled
  by_cases hlt : frOf s a < upOf room s a
  · rw [if_pos hlt, if_pos hlt]
  · rw [if_neg hlt, if_neg hlt, if_neg (show ¬ 16 < s.more.length by have := hi.few; omega)]
/-- the reference's tests are the program's -/
theorem pass_iff {room : Int} {s : St} (h : Inv room s) {t : Int} (h0 : 0 ≤ t) {fin : Bool} (h1 : 0 ≤ s.end_ → t ≤ s.end_ ∧ (fin = true → t = s.end_)) (h2 : fin = true → s.done ≤ t ∧ ∀ k, mapF s k ≠ none → k < t) : Pass s t fin :=
  ⟨h1, fun e => by
    by_cases hb : t < beyond s
    · exfalso
      rcases (beyond_iff h t h0).1 hb with e1 | ⟨n, hn, hle⟩
      · have := (h2 e).1; omega
      · have := (h2 e).2 n (mapF_came.2 hn); omega
    · omega⟩
theorem state_of {room : Int} {s : St} {a : Arrival} (hi : Inv room s) (h : ¬ (a.from_ < 0 ∨ 1048576 ≤ a.from_ ∨ 1048576 ≤ a.from_ + a.data.length)) (h2 : ¬ 64 < a.data.length) (h3 : (0 ≤ s.end_ ∧ (s.end_ < to_ a ∨ a.fin = true ∧ to_ a ≠ s.end_)) ∨ a.fin = true ∧ (to_ a < s.done ∨ ∃ k, mapF s k ≠ none ∧ to_ a ≤ k)) : arrive room s a = (10, s) := by
  refine arrive_state h h2 (h3.imp id fun ⟨e, h4⟩ => ⟨e, ?_⟩)
  refine (beyond_iff hi _ (by unfold to_; omega)).2 (h4.imp id fun ⟨k, h5, h6⟩ => ⟨k, mapF_came.1 h5, h6⟩)
end Go.Proofs.Ytdldfllllgogoaa.rv
