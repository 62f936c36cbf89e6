/- The plain law of recv, second part: what holds goes on to hold. No condition. -/
import Derived.Test.YtdldfllllgogoaaRecvP
namespace Go.Proofs.Ytdldfllllgogoaa.rv
open had

theorem part_len {room : Int} {s : St} {a : Arrival} (h : frOf s a < upOf room s a) : ((part room s a).length : Int) = upOf room s a - frOf s a := by
  have h1 : a.from_ ≤ frOf s a := by unfold frOf; omega
  have h2 : upOf room s a ≤ to_ a := by unfold upOf; omega
  unfold to_ at h2
  unfold part
  rw [List.length_take, List.length_drop]
  omega
theorem Inv.arrive {room : Int} {s : St} (h : Inv room s) (a : Arrival) : Inv room (arrive room s a).2 := by
  have hlo := h.lo
  unfold rv.arrive
  split
  · exact h
  · next h1 =>
    split
    · exact h
    · split
      · exact h
      · have he : (if a.fin = true then to_ a else s.end_) = -1 ∨ 0 ≤ (if a.fin = true then to_ a else s.end_) ∧ (if a.fin = true then to_ a else s.end_) < 1048576 := by
          split
          · right; unfold to_ at *; omega
          · exact h.fin
        split
        · next hlt =>
          split
          · exact h
          · next hl =>
            have hp := part_len hlt
            have hfr : 0 ≤ frOf s a := by unfold frOf; omega
            refine h.add hfr hlt (by unfold upOf; omega) (by have : upOf room s a ≤ to_ a := by unfold upOf; omega
                                                             omega) (by omega) he ?_
            rw [kept_len]
            omega
        · exact ⟨h.lo, h.canon, h.few, h.top, h.hi, he, h.len⟩
theorem takeOf_le {room : Int} {s : St} (h : Inv room s) {c : Int} (hc : 0 ≤ c) : ((takeOf s c : Nat) : Int) = min c (s.done - s.taken) := by
  have := h.lo
  unfold takeOf
  omega
theorem Inv.step {room : Int} {s : St} (h : Inv room s) (a : Arrival) : Inv room (step room s a).2 := by
  unfold rv.step
  split
  · exact h.arrive a
  · split
    · split
      · exact h
      · next hc =>
        have hk := takeOf_le h (c := a.count) (by omega)
        have hlo := h.lo
        exact ⟨by simp only; omega, h.canon, h.few, h.top, fun r hr => ⟨by have := (h.hi r hr).1; simp only; omega, (h.hi r hr).2⟩, h.fin, h.len⟩
    · exact h
theorem Inv.after {room : Int} (hr : 1 ≤ room) (l : List Arrival) : ∀ k, Inv room (after room l k).2
  | 0 => Inv.start hr
  | k + 1 => by
    have ih := Inv.after hr l k
    rw [rv.after]
    split
    · exact ih.step _
    · exact ih
theorem after_succ {room : Int} {l : List Arrival} {k : Nat} {a : Arrival} (h : l[k]? = some a) : after room l (k + 1) = ((after room l k).1 ++ [(doIt room (after room l k).2 a).1], (doIt room (after room l k).2 a).2) := by
  rw [after, h]
theorem after_len {room : Int} {l : List Arrival} : ∀ {k : Nat}, k ≤ l.length → (after room l k).1.length = k
  | 0, _ => rfl
  | k + 1, h => by
    rw [after_succ (List.getElem?_eq_getElem (by omega)), List.length_append, after_len (by omega)]
    rfl
/-- what hole.Add says of it -/
theorem ans_of {room : Int} {s : St} (h : Inv room s) {fr up : Int} (h0 : 0 ≤ fr) (h1 : fr < up) (h3 : up ≤ 1048575) :
    ans s.done s.more ⟨fr, up⟩ = if 16 < (addTo s.done s.more ⟨fr, up⟩).2.length then (0, [], 9) else ((addTo s.done s.more ⟨fr, up⟩).1, (addTo s.done s.more ⟨fr, up⟩).2, 0) := by
  unfold ans
  rw [if_neg (by simp [holeMayB_true h.may]), if_neg (by simp only; omega)]
/-- what hole.Sacks says of it -/
theorem sack_of {room : Int} {s : St} (h : Inv room s) (last : Int) : sackRes s.done s.more last 3 = .ok (sacks last 3 s.more) := by
  unfold sackRes
  rw [if_neg (by simp [holeMayB_true h.may]), if_neg (by omega)]
/-- the last place of all that came -/
theorem beyond_iff {room : Int} {s : St} (h : Inv room s) (q : Int) (h0 : 0 ≤ q) : q < beyond s ↔ q < s.done ∨ ∃ n, came s n ∧ q ≤ n := by
  have hlo := h.lo
  unfold beyond
  rcases List.eq_nil_or_concat s.more with e | ⟨o, x, e⟩
  · rw [e]
    simp only [List.getLast?_nil]
    constructor
    · exact .inl
    · rintro (h1 | ⟨n, hn, h1⟩)
      · exact h1
      · rcases hn with h2 | ⟨r, hr, _⟩
        · omega
        · rw [e] at hr; cases hr
  · rw [List.concat_eq_append] at e
    have hc := h.canon
    rw [e] at hc ⊢
    simp only [List.getLast?_append, List.getLast?_singleton, Option.some_or]
    have hx := hc.mem x (by simp)
    constructor
    · intro h1
      exact .inr ⟨x.hi - 1, .inr ⟨x, by rw [e]; simp, by unfold inR; omega⟩, by omega⟩
    · rintro (h1 | ⟨n, hn, h1⟩)
      · omega
      · rcases hn with h2 | ⟨r, hr, hp⟩
        · omega
        · rw [e] at hr
          rcases List.mem_append.1 hr with hr | hr
          · have := hc.lastlo r hr
            have := hp.2
            omega
          · rw [List.mem_singleton] at hr
            subst hr
            have := hp.2
            omega
end Go.Proofs.Ytdldfllllgogoaa.rv
