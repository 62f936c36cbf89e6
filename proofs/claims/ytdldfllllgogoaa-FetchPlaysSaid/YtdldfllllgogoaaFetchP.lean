/- The plain law of package fetch: a file is asked for, piece by piece. No condition. -/
import Derived.Test.YtdldfllllgogoaaPlay
namespace Go.Proofs.Ytdldfllllgogoaa.ft

/-- who fetches: what is asked for, how far, the end (-1: not known), what came -/
structure St where
  out : List Want
  front : Int
  end_ : Int
  data : List UInt8
def may (s : St) : Bool := decide (s.out.length < 6) && (decide (s.front ≤ 2048) && (decide (s.end_ < 0) || decide (s.front < s.end_)))
/-- ask for more -/
def fill : Nat → St → List Want → St × List Want
  | 0, s, l => (s, l)
  | n + 1, s, l => if may s then fill n { s with out := s.out ++ [⟨s.front, 100⟩], front := s.front + 100 } (l ++ [⟨s.front, 100⟩]) else (s, l)
def done (s : St) : Bool := decide (0 ≤ s.end_) && !(s.out.any fun w => decide (w.at_ < s.end_))
def on (s : St) (l : List Want) : St × Next :=
  ((fill (6 - s.out.length) s l).1, ⟨0, (fill (6 - s.out.length) s l).2, done (fill (6 - s.out.length) s l).1, if done (fill (6 - s.out.length) s l).1 then (fill (6 - s.out.length) s l).1.data.take (min (fill (6 - s.out.length) s l).1.end_.toNat (fill (6 - s.out.length) s l).1.data.length) else []⟩)
/-- bytes laid at a place -/
def put (d : List UInt8) (at_ : Nat) (b : List UInt8) : List UInt8 := (d ++ List.replicate (at_ + b.length - d.length) 0).take at_ ++ b ++ (d ++ List.replicate (at_ + b.length - d.length) 0).drop (at_ + b.length)
def index (l : List Want) (w : Want) : Option Nat := l.findIdx? (· == w)
def endOf (s : St) (g : Got) : Int := if g.data.length = 0 ∧ (s.end_ < 0 ∨ g.at_ < s.end_) then g.at_ else s.end_
def rest (g : Got) : List Want := if 0 < g.data.length ∧ (g.data.length : Int) < g.count then [⟨g.at_ + g.data.length, g.count - g.data.length⟩] else []
def came (s : St) (g : Got) (i : Nat) : St := { s with out := s.out.eraseIdx i ++ rest g, data := put s.data g.at_.toNat g.data, end_ := endOf s g }
def got (s : St) (g : Got) : St × Next :=
  match index s.out ⟨g.at_, g.count⟩ with
  | none => (s, ⟨7, [], false, []⟩)
  | some i => if g.count < g.data.length then (s, ⟨1, [], false, []⟩) else on (came s g i) (rest g)
def playFrom (s : St) (o : List Next) : List Got → List Next
  | [] => o
  | g :: t => playFrom (got s g).1 (o ++ [(got s g).2]) t
def start : St := ⟨[], 0, -1, []⟩
def play (l : List Got) : Except Int (List Next) := if 300 < l.length then .error 1 else .ok (playFrom (on start []).1 [(on start []).2] l)

/-! ### As the reference fetches -/
structure Ref where
  out : List Want
  front : Int
  end_ : Int
  byte : Int → UInt8
def never : Int := 1099511627776
def mayR (s : Ref) : Bool := decide (s.out.length < 6) && (decide (s.front ≤ 2048) && decide (s.front < s.end_))
def fillR : Nat → Ref → List Want → Ref × List Want
  | 0, s, l => (s, l)
  | n + 1, s, l => if mayR s then fillR n { s with out := s.out ++ [⟨s.front, 100⟩], front := s.front + 100 } (l ++ [⟨s.front, 100⟩]) else (s, l)
def doneR (s : Ref) : Bool := decide (s.end_ < never) && s.out.all fun w => decide (s.end_ ≤ w.at_)
def bytesTo (f : Int → UInt8) (n : Nat) : List UInt8 := (List.range n).map fun i : Nat => f (i : Int)
def onR (s : Ref) (l : List Want) : Ref × Next :=
  ((fillR (6 - s.out.length) s l).1, ⟨0, (fillR (6 - s.out.length) s l).2, doneR (fillR (6 - s.out.length) s l).1, if doneR (fillR (6 - s.out.length) s l).1 then bytesTo (fillR (6 - s.out.length) s l).1.byte (fillR (6 - s.out.length) s l).1.end_.toNat else []⟩)
def putR (f : Int → UInt8) (at_ : Int) (b : List UInt8) : Int → UInt8 := fun p => if at_ ≤ p ∧ p < at_ + b.length then b.getD (p - at_).toNat 0 else f p
def cameR (s : Ref) (g : Got) (i : Nat) : Ref := { s with out := s.out.eraseIdx i ++ rest g, byte := putR s.byte g.at_ g.data, end_ := if g.data.length = 0 then min s.end_ g.at_ else s.end_ }
def gotR (s : Ref) (g : Got) : Ref × Next :=
  match index s.out ⟨g.at_, g.count⟩ with
  | none => (s, ⟨7, [], false, []⟩)
  | some i => if g.count < g.data.length then (s, ⟨1, [], false, []⟩) else onR (cameR s g i) (rest g)
def playFromR (s : Ref) (o : List Next) : List Got → List Next
  | [] => o
  | g :: t => playFromR (gotR s g).1 (o ++ [(gotR s g).2]) t
def startR : Ref := ⟨[], 0, never, fun _ => 0⟩
def playR (l : List Got) : Except Int (List Next) := if 300 < l.length then .error 1 else .ok (playFromR (onR startR []).1 [(onR startR []).2] l)

/-- both states alike, and what is ever true of them -/
structure Like (s : St) (r : Ref) : Prop where
  out : r.out = s.out
  front : r.front = s.front
  end_ : r.end_ = if s.end_ < 0 then never else s.end_
  byte : ∀ p : Nat, r.byte p = s.data.getD p 0
  wants : ∀ w ∈ s.out, 0 ≤ w.at_ ∧ 1 ≤ w.count ∧ w.count ≤ 100 ∧ w.at_ + w.count ≤ s.front
  f0 : 0 ≤ s.front ∧ s.front ≤ 2148
  e0 : -1 ≤ s.end_ ∧ s.end_ ≤ s.front
  len : (s.data.length : Int) ≤ s.front
  few : s.out.length ≤ 6
  cover : ∀ p : Int, 0 ≤ p → p < s.front → (0 ≤ s.end_ → p < s.end_) → p < s.data.length ∨ ∃ w ∈ s.out, w.at_ ≤ p ∧ p < w.at_ + w.count
theorem may_eq {s : St} {r : Ref} (h : Like s r) : mayR r = may s := by
  unfold mayR may
  rw [h.out, h.front, h.end_]
  have h1 := h.f0
  by_cases he : s.end_ < 0
  · rw [if_pos he, decide_eq_true he]
    have : decide (s.front < never) = true := decide_eq_true (by unfold never; omega)
    rw [this]; simp
  · rw [if_neg he, decide_eq_false he]; simp
theorem push_like {s : St} {r : Ref} (h : Like s r) (hm : may s = true) : Like { s with out := s.out ++ [⟨s.front, 100⟩], front := s.front + 100 } { r with out := r.out ++ [⟨r.front, 100⟩], front := r.front + 100 } := by
  unfold may at hm
  simp only [Bool.and_eq_true, Bool.or_eq_true, decide_eq_true_eq] at hm
  obtain ⟨m1, m2, m3⟩ := hm
  obtain ⟨h1, h2, h3, h4, h5, h6, h7, h8, h9, h10⟩ := h
  refine ⟨by show r.out ++ [⟨r.front, 100⟩] = _; rw [h1, h2], by show r.front + 100 = _; rw [h2], h3, h4, ?_, ?_, ?_, ?_, ?_, ?_⟩
  · intro w hw
    rcases List.mem_append.1 hw with hw | hw
    · obtain ⟨a, b, c, d⟩ := h5 w hw
      exact ⟨a, b, c, by show w.at_ + w.count ≤ s.front + 100; omega⟩
    · rw [List.mem_singleton.1 hw]
      exact ⟨h6.1, by show (1 : Int) ≤ 100; decide, by show (100 : Int) ≤ 100; decide, Int.le_refl _⟩
  · show 0 ≤ s.front + 100 ∧ s.front + 100 ≤ 2148
    omega
  · show -1 ≤ s.end_ ∧ s.end_ ≤ s.front + 100
    omega
  · show (s.data.length : Int) ≤ s.front + 100
    omega
  · show (s.out ++ [(⟨s.front, 100⟩ : Want)]).length ≤ 6
    rw [List.length_append]
    simp
    omega
  · intro p hp0 hp1 hp2
    by_cases hp : p < s.front
    · rcases h10 p hp0 hp hp2 with h | ⟨w, hw, h⟩
      · exact .inl h
      · exact .inr ⟨w, List.mem_append_left _ hw, h⟩
    · exact .inr ⟨⟨s.front, 100⟩, List.mem_append_right _ (by simp), by show s.front ≤ p; omega, hp1⟩
theorem fill_like : ∀ (n : Nat) {s : St} {r : Ref} (l : List Want), Like s r → Like (fill n s l).1 (fillR n r l).1 ∧ (fillR n r l).2 = (fill n s l).2
  | 0, _, _, _, h => ⟨h, rfl⟩
  | n + 1, s, r, l, h => by
    unfold fill fillR
    rw [may_eq h]
    cases hm : may s with
    | false => exact ⟨h, rfl⟩
    | true =>
      simp only [if_true]
      have h2 := fill_like n (l ++ [⟨s.front, 100⟩]) (push_like h hm)
      rw [h.front] at *
      exact h2
theorem done_eq {s : St} {r : Ref} (h : Like s r) : doneR r = done s := by
  unfold doneR done
  rw [h.out, h.end_]
  have h1 := h.f0
  have h2 := h.e0
  by_cases he : s.end_ < 0
  · rw [if_pos he, decide_eq_false (by omega : ¬ 0 ≤ s.end_), decide_eq_false (by omega : ¬ never < never)]; rfl
  · rw [if_neg he, decide_eq_true (by omega : 0 ≤ s.end_), decide_eq_true (by unfold never; omega : s.end_ < never)]
    simp only [Bool.true_and]
    rw [Bool.eq_iff_iff]
    simp
theorem done_data {s : St} {r : Ref} (h : Like s r) (hd : done s = true) : s.data.take (min s.end_.toNat s.data.length) = bytesTo r.byte r.end_.toNat := by
  unfold done at hd
  rw [Bool.and_eq_true] at hd
  obtain ⟨h0, hall⟩ := hd
  have h0 := of_decide_eq_true h0
  have hall : ∀ w ∈ s.out, ¬ w.at_ < s.end_ := by
    intro w hw hlt
    rw [Bool.not_eq_true', List.any_eq_false] at hall
    exact hall w hw (by simpa using hlt)
  have hlen : s.end_.toNat ≤ s.data.length := by
    by_cases hz : s.end_ = 0
    · omega
    · have he := h.e0
      rcases h.cover (s.end_ - 1) (by omega) (by omega) (fun _ => by omega) with hc | ⟨w, hw, hc1, _⟩
      · omega
      · exact absurd (by omega) (hall w hw)
  rw [h.end_, if_neg (by omega), Nat.min_eq_left hlen]
  apply List.ext_getElem?
  intro i
  unfold bytesTo
  rw [List.getElem?_map, List.getElem?_take]
  by_cases hi : i < s.end_.toNat
  · rw [if_pos hi, List.getElem?_range hi]
    simp only [Option.map_some]
    rw [h.byte i, List.getD_eq_getElem?_getD, List.getElem?_eq_getElem (by omega)]
    rfl
  · rw [if_neg hi, List.getElem?_eq_none (by rw [List.length_range]; omega)]
    rfl
theorem on_like {s : St} {r : Ref} (h : Like s r) (l : List Want) : Like (on s l).1 (onR r l).1 ∧ (onR r l).2 = (on s l).2 := by
  unfold on onR
  rw [h.out]
  obtain ⟨h1, h2⟩ := fill_like (6 - s.out.length) l h
  refine ⟨h1, ?_⟩
  simp only [h2, done_eq h1]
  cases hd : done (fill (6 - s.out.length) s l).1 with
  | false => rfl
  | true =>
    simp only [if_true]
    rw [done_data h1 hd]
theorem index_some {l : List Want} {w : Want} {i : Nat} (h : index l w = some i) : ∃ hi : i < l.length, l[i] = w := by
  unfold index at h
  rw [List.findIdx?_eq_some_iff_getElem] at h
  obtain ⟨hi, h1, _⟩ := h
  exact ⟨hi, by simpa using h1⟩
theorem put_len (d : List UInt8) (n : Nat) (b : List UInt8) : (put d n b).length = max d.length (n + b.length) := by
  unfold put
  simp only [List.length_append, List.length_take, List.length_drop, List.length_replicate]
  omega
theorem put_get (d : List UInt8) (n : Nat) (b : List UInt8) (p : Nat) : (put d n b).getD p 0 = if n ≤ p ∧ p < n + b.length then b.getD (p - n) 0 else d.getD p 0 := by
  unfold put
  simp only [List.getD_eq_getElem?_getD]
  have hlen : (d ++ List.replicate (n + b.length - d.length) (0 : UInt8)).length = max d.length (n + b.length) := by
    rw [List.length_append, List.length_replicate]; omega
  have hD : ∀ q : Nat, (d ++ List.replicate (n + b.length - d.length) (0 : UInt8))[q]?.getD 0 = d[q]?.getD 0 := fun q => by
    by_cases hq : q < d.length
    · rw [List.getElem?_append_left hq]
    · rw [List.getElem?_append_right (by omega), List.getElem?_eq_none (l := d) (by omega)]
      rw [List.getElem?_replicate]
      split <;> rfl
  have ht : ((d ++ List.replicate (n + b.length - d.length) (0 : UInt8)).take n).length = n := by rw [List.length_take, hlen]; omega
  by_cases h1 : p < n
  · rw [if_neg (by omega), List.append_assoc, List.getElem?_append_left (by rw [ht]; exact h1), List.getElem?_take, if_pos h1]
    exact hD p
  · by_cases h2 : p < n + b.length
    · rw [if_pos (by omega), List.append_assoc, List.getElem?_append_right (by rw [ht]; omega), ht, List.getElem?_append_left (by omega)]
    · rw [if_neg (by omega), List.append_assoc, List.getElem?_append_right (by rw [ht]; omega), ht, List.getElem?_append_right (by omega), List.getElem?_drop]
      rw [show n + b.length + (p - n - b.length) = p by omega]
      exact hD p
theorem came_like {s : St} {r : Ref} (h : Like s r) (g : Got) {i : Nat} (hi : index s.out ⟨g.at_, g.count⟩ = some i) (hc : ¬ g.count < g.data.length) : Like (came s g i) (cameR r g i) := by
  obtain ⟨hlt, hw⟩ := index_some hi
  have hmem : (⟨g.at_, g.count⟩ : Want) ∈ s.out := by rw [← hw]; exact List.getElem_mem hlt
  obtain ⟨w1, w2, w3, w4⟩ := h.wants _ hmem
  dsimp only at w1 w2 w3 w4
  have hf := h.f0
  have he := h.e0
  have hrest : ∀ w ∈ rest g, 0 ≤ w.at_ ∧ 1 ≤ w.count ∧ w.count ≤ 100 ∧ w.at_ + w.count ≤ s.front := by
    intro w hw
    unfold rest at hw
    split at hw
    · rename_i hr
      rw [List.mem_singleton.1 hw]
      exact ⟨by show 0 ≤ g.at_ + (g.data.length : Int); omega, by show 1 ≤ g.count - (g.data.length : Int); omega, by show g.count - (g.data.length : Int) ≤ 100; omega, by show g.at_ + (g.data.length : Int) + (g.count - (g.data.length : Int)) ≤ s.front; omega⟩
    · cases hw
  have hrl : (rest g).length ≤ 1 := by unfold rest; split <;> simp
  refine ⟨?_, h.front, ?_, ?_, ?_, hf, ?_, ?_, ?_, ?_⟩
  · show r.out.eraseIdx i ++ rest g = s.out.eraseIdx i ++ rest g
    rw [h.out]
  · show (if g.data.length = 0 then min r.end_ g.at_ else r.end_) = if endOf s g < 0 then never else endOf s g
    rw [h.end_]
    by_cases h0 : g.data.length = 0
    · rw [if_pos h0]
      by_cases he2 : s.end_ < 0
      · have e1 : endOf s g = g.at_ := by unfold endOf; exact if_pos ⟨h0, .inl he2⟩
        rw [if_pos he2, e1, if_neg (by omega)]
        unfold never; omega
      · rw [if_neg he2]
        by_cases ha : g.at_ < s.end_
        · have e1 : endOf s g = g.at_ := by unfold endOf; exact if_pos ⟨h0, .inr ha⟩
          rw [e1, if_neg (by omega)]; omega
        · have e1 : endOf s g = s.end_ := by unfold endOf; exact if_neg (by omega)
          rw [e1, if_neg he2]; omega
    · have e1 : endOf s g = s.end_ := by unfold endOf; exact if_neg (by omega)
      rw [if_neg h0, e1]
  · intro p
    show putR r.byte g.at_ g.data p = (put s.data g.at_.toNat g.data).getD p 0
    rw [put_get]
    unfold putR
    by_cases hp : g.at_ ≤ (p : Int) ∧ (p : Int) < g.at_ + g.data.length
    · rw [if_pos hp, if_pos (by omega)]
      congr 1
      omega
    · rw [if_neg hp, if_neg (by omega)]
      exact h.byte p
  · intro w hw
    rcases List.mem_append.1 hw with hw | hw
    · exact h.wants w (List.mem_of_mem_eraseIdx hw)
    · exact hrest w hw
  · show -1 ≤ endOf s g ∧ endOf s g ≤ s.front
    unfold endOf
    split <;> omega
  · show ((put s.data g.at_.toNat g.data).length : Int) ≤ s.front
    rw [put_len]
    have := h.len
    omega
  · show (s.out.eraseIdx i ++ rest g).length ≤ 6
    rw [List.length_append, List.length_eraseIdx_of_lt hlt]
    have := h.few
    omega
  · intro p hp0 hp1 hp2
    show p < ((put s.data g.at_.toNat g.data).length : Int) ∨ ∃ w ∈ s.out.eraseIdx i ++ rest g, w.at_ ≤ p ∧ p < w.at_ + w.count
    rw [put_len]
    have hp2' : 0 ≤ s.end_ → p < s.end_ := fun h0 => by
      have h3 := hp2 (by show 0 ≤ endOf s g; unfold endOf; split <;> omega)
      have h4 : endOf s g ≤ s.end_ := by unfold endOf; split <;> omega
      exact Int.lt_of_lt_of_le h3 h4
    rcases h.cover p hp0 hp1 hp2' with hd | ⟨w, hwm, ha, hb⟩
    · exact .inl (by omega)
    · by_cases hne : w = ⟨g.at_, g.count⟩
      · subst hne
        dsimp only at ha hb
        by_cases hk : p < g.at_ + g.data.length
        · exact .inl (by omega)
        · by_cases hk0 : g.data.length = 0
          · -- nothing came: the end lies at or ahead of it
            have h3 : endOf s g ≤ g.at_ := by
              unfold endOf
              by_cases hx : s.end_ < 0 ∨ g.at_ < s.end_
              · rw [if_pos ⟨hk0, hx⟩]; exact Int.le_refl _
              · rw [if_neg (fun h => hx h.2)]; omega
            have h4 : 0 ≤ endOf s g := by unfold endOf; split <;> omega
            have h5 : p < endOf s g := hp2 h4
            omega
          · refine .inr ⟨⟨g.at_ + g.data.length, g.count - g.data.length⟩, List.mem_append_right _ ?_, by show g.at_ + (g.data.length : Int) ≤ p; omega, by show p < g.at_ + (g.data.length : Int) + (g.count - (g.data.length : Int)); omega⟩
            unfold rest
            rw [if_pos ⟨by omega, by omega⟩]
            simp
      · refine .inr ⟨w, List.mem_append_left _ ?_, ha, hb⟩
        obtain ⟨j, hj, hje⟩ := List.mem_iff_getElem.1 hwm
        rw [List.mem_eraseIdx_iff_getElem]
        refine ⟨j, hj, fun hij => ?_, hje⟩
        subst hij
        exact hne (hje.symm.trans hw)
theorem got_like {s : St} {r : Ref} (h : Like s r) (g : Got) : Like (got s g).1 (gotR r g).1 ∧ (gotR r g).2 = (got s g).2 := by
  unfold got gotR
  rw [h.out]
  cases hi : index s.out ⟨g.at_, g.count⟩ with
  | none => exact ⟨h, rfl⟩
  | some i =>
    by_cases hc : g.count < g.data.length
    · show Like (if g.count < g.data.length then (s, (⟨1, [], false, []⟩ : Next)) else on (came s g i) (rest g)).1 (if g.count < g.data.length then (r, (⟨1, [], false, []⟩ : Next)) else onR (cameR r g i) (rest g)).1 ∧ (if g.count < g.data.length then (r, (⟨1, [], false, []⟩ : Next)) else onR (cameR r g i) (rest g)).2 = (if g.count < g.data.length then (s, (⟨1, [], false, []⟩ : Next)) else on (came s g i) (rest g)).2
      rw [if_pos hc, if_pos hc]
      exact ⟨h, rfl⟩
    · show Like (if g.count < g.data.length then (s, (⟨1, [], false, []⟩ : Next)) else on (came s g i) (rest g)).1 (if g.count < g.data.length then (r, (⟨1, [], false, []⟩ : Next)) else onR (cameR r g i) (rest g)).1 ∧ (if g.count < g.data.length then (r, (⟨1, [], false, []⟩ : Next)) else onR (cameR r g i) (rest g)).2 = (if g.count < g.data.length then (s, (⟨1, [], false, []⟩ : Next)) else on (came s g i) (rest g)).2
      rw [if_neg hc, if_neg hc]
      exact on_like (came_like h g hi hc) _
theorem playFrom_eq : ∀ (l : List Got) {s : St} {r : Ref} (o : List Next), Like s r → playFromR r o l = playFrom s o l
  | [], _, _, _, _ => rfl
  | g :: t, s, r, o, h => by
    unfold playFrom playFromR
    obtain ⟨h1, h2⟩ := got_like h g
    rw [h2]
    exact playFrom_eq t _ h1
theorem start_like : Like start startR where
  out := rfl
  front := rfl
  end_ := rfl
  byte := fun p => by simp [start, startR]
  wants := fun w hw => by cases hw
  f0 := by show (0 : Int) ≤ 0 ∧ (0 : Int) ≤ 2148; omega
  e0 := by show (-1 : Int) ≤ -1 ∧ (-1 : Int) ≤ 0; omega
  len := Int.le_refl 0
  few := Nat.zero_le 6
  cover := fun p h0 h1 _ => absurd h1 (by show ¬ p < 0; omega)
theorem play_eq (l : List Got) : playR l = play l := by
  unfold play playR
  obtain ⟨h1, h2⟩ := on_like start_like []
  rw [h2, playFrom_eq l _ h1]
end Go.Proofs.Ytdldfllllgogoaa.ft
