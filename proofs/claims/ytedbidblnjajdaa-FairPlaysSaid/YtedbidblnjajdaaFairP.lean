/- The plain law of package fair: whose turn it is. No program in sight. No condition. -/
import Derived.Test.YtedbidblnjajdaaPlay
namespace Go.Proofs.Ytedbidblnjajdaa.fr

structure St where
  w : Nat → List Int
  d : Nat → Int
  t : List Nat
  f : Bool
def upd {α : Type} (g : Nat → α) (i : Nat) (v : α) : Nat → α := fun j => if j = i then v else g j
theorem upd_same {α : Type} (g : Nat → α) (i : Nat) (v : α) : upd g i v i = v := if_pos rfl
theorem upd_other {α : Type} (g : Nat → α) {i j : Nat} (v : α) (h : j ≠ i) : upd g i v j = g j := if_neg h
def first (s : St) (i : Nat) : Int := (s.w i).headD 0
structure Inv (nq : Nat) (s : St) : Prop where
  nodup : s.t.Nodup
  waits : ∀ i, i ∈ s.t → i < nq ∧ s.w i ≠ []
  small : ∀ i x, x ∈ s.w i → 1 ≤ x ∧ x ≤ 1500
  short : ∀ i, (s.w i).length ≤ 40
  owed : ∀ i, 0 ≤ s.d i ∧ s.d i ≤ 3000
  idle : ∀ i, i ∉ s.t → s.d i = 0
  less : ∀ i, i ∈ s.t → (s.f = true → s.t.head? ≠ some i) → s.d i < first s i
  fed : s.f = true → s.t ≠ []
def start : St := ⟨fun _ => [], fun _ => 0, [], false⟩
theorem inv_start (nq : Nat) : Inv nq start := ⟨by simp [start], by simp [start], by simp [start], by simp [start], by simp [start], by simp [start], by simp [start], by simp [start]⟩
/-- a packet comes -/
def come (nq : Nat) (s : St) (flow size : Int) : St × Int :=
  if flow < 0 ∨ (nq : Int) ≤ flow ∨ 1500 < size then (s, 2)
  else if 40 ≤ (s.w flow.toNat).length then (s, 9)
  else (⟨upd s.w flow.toNat (s.w flow.toNat ++ [size]), s.d, if (s.w flow.toNat).length = 0 then s.t ++ [flow.toNat] else s.t, s.f⟩, 0)
theorem first_pos {nq : Nat} {s : St} (h : Inv nq s) {i : Nat} (hi : i ∈ s.t) : 1 ≤ first s i ∧ first s i ≤ 1500 := by
  have h1 := (h.waits i hi).2
  unfold first
  cases hw : s.w i with
  | nil => exact absurd hw h1
  | cons x r => exact h.small i x (by rw [hw]; simp)
theorem inv_come {nq : Nat} {s : St} (h : Inv nq s) {flow size : Int} (hs : 0 < size) : Inv nq (come nq s flow size).1 := by
  unfold come
  split
  · exact h
  · rename_i c1
    split
    · exact h
    · rename_i c2
      obtain ⟨i, hi⟩ : ∃ i : Nat, i = flow.toNat := ⟨_, rfl⟩
      rw [← hi] at c2 ⊢
      have hin : i < nq := by omega
      have hsz : size ≤ 1500 := by omega
      have hsmall : ∀ j x, x ∈ upd s.w i (s.w i ++ [size]) j → 1 ≤ x ∧ x ≤ 1500 := fun j x hx => by
        by_cases e : j = i
        · subst e
          rw [upd_same] at hx
          rcases List.mem_append.1 hx with hx | hx
          · exact h.small j x hx
          · simp at hx; subst hx; omega
        · rw [upd_other _ _ e] at hx
          exact h.small j x hx
      have hshort : ∀ j, (upd s.w i (s.w i ++ [size]) j).length ≤ 40 := fun j => by
        by_cases e : j = i
        · subst e
          rw [upd_same, List.length_append, List.length_singleton]
          omega
        · rw [upd_other _ _ e]
          exact h.short j
      by_cases c3 : (s.w i).length = 0
      · have hwe : s.w i = [] := List.eq_nil_of_length_eq_zero c3
        have hni : i ∉ s.t := fun e => (h.waits i e).2 hwe
        simp only [c3, if_true]
        refine ⟨?_, fun j hj => ?_, hsmall, hshort, h.owed, fun j hj => h.idle j (fun e => hj (by simp [e])), fun j hj hf => ?_, fun hf => by simp⟩
        · rw [List.nodup_append]
          exact ⟨h.nodup, by simp, fun a ha b hb e => hni (by simp at hb; rw [← hb, ← e]; exact ha)⟩
        · simp only at hj ⊢
          rcases List.mem_append.1 hj with hj | hj
          · have e : j ≠ i := fun e => hni (e ▸ hj)
            rw [upd_other _ _ e]
            exact h.waits j hj
          · simp at hj
            subst hj
            exact ⟨hin, by rw [upd_same]; simp⟩
        · simp only at hj hf ⊢
          unfold first
          simp only
          rcases List.mem_append.1 hj with hj | hj
          · have e : j ≠ i := fun e => hni (e ▸ hj)
            rw [upd_other _ _ e]
            refine h.less j hj fun hf1 => ?_
            have := hf hf1
            rw [List.head?_append] at this
            cases ht : s.t with
            | nil => rw [ht] at hj; cases hj
            | cons y r => rw [ht] at this; simpa using this
          · simp at hj
            subst hj
            rw [upd_same, hwe, h.idle j hni]
            simp only [List.nil_append, List.headD_cons]
            omega
      · simp only [c3, if_false]
        have hfirst : ∀ j, ((upd s.w i (s.w i ++ [size])) j).headD 0 = first s j := fun j => by
          unfold first
          by_cases e : j = i
          · subst e
            rw [upd_same]
            cases hw : s.w j with
            | nil => rw [hw] at c3; simp at c3
            | cons y r => rfl
          · rw [upd_other _ _ e]
        refine ⟨h.nodup, fun j hj => ?_, hsmall, hshort, h.owed, h.idle, fun j hj hf => ?_, h.fed⟩
        · by_cases e : j = i
          · subst e
            exact ⟨hin, by simp only [upd_same]; simp⟩
          · simp only [upd_other _ _ e]
            exact h.waits j hj
        · unfold first
          simp only [hfirst]
          exact h.less j hj hf
/-- the first of the turn is given its quantum -/
def give (q : Nat → Int) (s : St) (i : Nat) : St := if s.f then s else ⟨s.w, upd s.d i (s.d i + q i), s.t, true⟩
def over (s : St) (i : Nat) (tl : List Nat) : St := ⟨s.w, s.d, tl ++ [i], false⟩
def need (s : St) (i : Nat) : Nat := (first s i - s.d i).toNat
def mu (s : St) : Nat := (s.t.map (need s)).sum + (if s.f then 1 else 0)
/-- turns, till one is served -/
def spin (q : Nat → Int) : Nat → St → St
  | 0, s => s
  | n + 1, s => match s.t with
    | [] => s
    | i :: tl => if first (give q s i) i ≤ (give q s i).d i then give q s i else spin q n (over (give q s i) i tl)
theorem give_w (q : Nat → Int) (s : St) (i : Nat) : (give q s i).w = s.w ∧ (give q s i).t = s.t ∧ (give q s i).f = true := by
  unfold give
  split
  · exact ⟨rfl, rfl, by assumption⟩
  · exact ⟨rfl, rfl, rfl⟩
theorem give_first (q : Nat → Int) (s : St) (i j : Nat) : first (give q s i) j = first s j := by
  unfold first
  rw [(give_w q s i).1]
theorem give_other (q : Nat → Int) (s : St) {i j : Nat} (h : j ≠ i) : (give q s i).d j = s.d j := by
  unfold give
  split
  · rfl
  · exact upd_other _ _ h
theorem give_debt {nq : Nat} {q : Nat → Int} (hq : ∀ i, i < nq → 1 ≤ q i ∧ q i ≤ 1500) {s : St} (h : Inv nq s) {i : Nat} {tl : List Nat} (ht : s.t = i :: tl) : 0 ≤ (give q s i).d i ∧ (give q s i).d i ≤ 3000 ∧ s.d i ≤ (give q s i).d i := by
  have hi : i ∈ s.t := by rw [ht]; simp
  have h1 := h.owed i
  have h2 := hq i (h.waits i hi).1
  have h3 := first_pos h hi
  unfold give
  split
  · omega
  · rename_i hf
    have h4 := h.less i hi (fun e => absurd e hf)
    simp only [upd_same]
    omega
theorem inv_give {nq : Nat} {q : Nat → Int} (hq : ∀ i, i < nq → 1 ≤ q i ∧ q i ≤ 1500) {s : St} (h : Inv nq s) {i : Nat} {tl : List Nat} (ht : s.t = i :: tl) : Inv nq (give q s i) := by
  obtain ⟨e1, e2, e3⟩ := give_w q s i
  have hd := give_debt hq h ht
  refine ⟨by rw [e2]; exact h.nodup, by rw [e1, e2]; exact h.waits, by rw [e1]; exact h.small, by rw [e1]; exact h.short, fun j => ?_, fun j hj => ?_, fun j hj hf => ?_, fun _ => by rw [e2, ht]; simp⟩
  · by_cases e : j = i
    · subst e; exact ⟨hd.1, hd.2.1⟩
    · rw [give_other q s e]; exact h.owed j
  · rw [e2] at hj
    have e : j ≠ i := fun e => hj (by rw [ht, e]; simp)
    rw [give_other q s e]
    exact h.idle j hj
  · rw [e2] at hj hf
    have hne := hf e3
    rw [ht] at hne
    have e : j ≠ i := fun e => hne (by rw [e]; rfl)
    rw [give_other q s e, give_first]
    exact h.less j hj (fun _ => by rw [ht]; exact hne)
theorem inv_over {nq : Nat} {s : St} (h : Inv nq s) {i : Nat} {tl : List Nat} (ht : s.t = i :: tl) (hn : s.d i < first s i) : Inv nq (over s i tl) := by
  have hnd := h.nodup
  rw [ht, List.nodup_cons] at hnd
  have hm : ∀ j, j ∈ tl ++ [i] ↔ j ∈ s.t := fun j => by rw [ht]; simp [or_comm]
  refine ⟨?_, fun j hj => h.waits j ((hm j).1 hj), h.small, h.short, h.owed, fun j hj => h.idle j (fun e => hj ((hm j).2 e)), fun j hj _ => ?_, fun e => by cases e⟩
  · unfold over
    simp only
    rw [List.nodup_append]
    exact ⟨hnd.2, by simp, fun a ha b hb e => hnd.1 (by simp at hb; rw [← hb, ← e]; exact ha)⟩
  · show s.d j < first s j
    by_cases e : j = i
    · subst e; exact hn
    · refine h.less j ((hm j).1 hj) fun _ => ?_
      rw [ht]
      simpa using fun e2 : i = j => e e2.symm
theorem mu_over {nq : Nat} {q : Nat → Int} (hq : ∀ i, i < nq → 1 ≤ q i ∧ q i ≤ 1500) {s : St} (h : Inv nq s) {i : Nat} {tl : List Nat} (ht : s.t = i :: tl) (hn : (give q s i).d i < first (give q s i) i) : mu (over (give q s i) i tl) < mu s := by
  have hnd := h.nodup
  rw [ht, List.nodup_cons] at hnd
  have hi : i ∈ s.t := by rw [ht]; simp
  have hw := give_w q s i
  have hsame : ∀ j, j ∈ tl → need (over (give q s i) i tl) j = need s j := fun j hj => by
    have e : j ≠ i := fun e => hnd.1 (e ▸ hj)
    show (first (give q s i) j - (give q s i).d j).toNat = _
    rw [give_first, give_other q s e]
    rfl
  have hmap : tl.map (need (over (give q s i) i tl)) = tl.map (need s) := List.map_congr_left hsame
  unfold mu
  rw [ht]
  show ((tl ++ [i]).map (need (over (give q s i) i tl))).sum + 0 < _
  rw [List.map_append, List.sum_append, hmap, List.map_cons, List.sum_cons]
  simp only [List.map_cons, List.map_nil, List.sum_cons, List.sum_nil, Nat.add_zero]
  have hni : need (over (give q s i) i tl) i = (first s i - (give q s i).d i).toNat := by
    show (first (give q s i) i - (give q s i).d i).toNat = _
    rw [give_first]
  rw [hni]
  rw [give_first] at hn
  unfold need
  cases hf : s.f with
  | true =>
    have : give q s i = s := by unfold give; rw [hf]; rfl
    rw [this]
    simp
    omega
  | false =>
    have hd : (give q s i).d i = s.d i + q i := by unfold give; rw [hf]; simp [upd_same]
    have := hq i (h.waits i hi).1
    rw [hd] at hn ⊢
    simp only [Bool.false_eq_true, if_false]
    omega
/-- the first packet of the first one goes -/
def sent (s : St) (i : Nat) (tl : List Nat) : St :=
  if (s.w i).tail = [] then ⟨upd s.w i [], upd s.d i 0, tl, false⟩ else ⟨upd s.w i (s.w i).tail, upd s.d i (s.d i - first s i), s.t, s.f⟩
theorem inv_sent {nq : Nat} {s : St} (h : Inv nq s) {i : Nat} {tl : List Nat} (ht : s.t = i :: tl) (hf : s.f = true) (hn : first s i ≤ s.d i) : Inv nq (sent s i tl) := by
  have hnd := h.nodup
  rw [ht, List.nodup_cons] at hnd
  have hi : i ∈ s.t := by rw [ht]; simp
  have hp := first_pos h hi
  have ho := h.owed i
  have other : ∀ j, j ∈ tl → s.d j < first s j := fun j hj => h.less j (by rw [ht]; simp [hj]) fun _ => by
    rw [ht]
    intro e
    simp at e
    exact hnd.1 (e ▸ hj)
  unfold sent
  by_cases c : (s.w i).tail = []
  · rw [if_pos c]
    refine ⟨hnd.2, fun j hj => ?_, fun j x hx => ?_, fun j => ?_, fun j => ?_, fun j hj => ?_, fun j hj _ => ?_, fun e => by cases e⟩
    · simp only at hj ⊢
      have e : j ≠ i := fun e => hnd.1 (e ▸ hj)
      rw [upd_other _ _ e]
      exact h.waits j (by rw [ht]; simp [hj])
    · simp only at hx
      by_cases e : j = i
      · subst e; rw [upd_same] at hx; cases hx
      · rw [upd_other _ _ e] at hx; exact h.small j x hx
    · simp only
      by_cases e : j = i
      · subst e; rw [upd_same]; simp
      · rw [upd_other _ _ e]; exact h.short j
    · simp only
      by_cases e : j = i
      · subst e; rw [upd_same]; omega
      · rw [upd_other _ _ e]; exact h.owed j
    · simp only at hj ⊢
      by_cases e : j = i
      · subst e; rw [upd_same]
      · rw [upd_other _ _ e]
        exact h.idle j (by rw [ht]; simp [e, hj])
    · simp only at hj ⊢
      have e : j ≠ i := fun e => hnd.1 (e ▸ hj)
      unfold first
      simp only [upd_other _ _ e]
      exact other j hj
  · rw [if_neg c]
    have htl : ∀ x, x ∈ (s.w i).tail → x ∈ s.w i := fun x hx => List.mem_of_mem_tail hx
    refine ⟨h.nodup, fun j hj => ?_, fun j x hx => ?_, fun j => ?_, fun j => ?_, fun j hj => ?_, fun j hj hne => ?_, h.fed⟩
    · simp only at hj ⊢
      by_cases e : j = i
      · subst e; exact ⟨(h.waits j hj).1, by rw [upd_same]; exact c⟩
      · rw [upd_other _ _ e]; exact h.waits j hj
    · simp only at hx
      by_cases e : j = i
      · subst e; rw [upd_same] at hx; exact h.small j x (htl x hx)
      · rw [upd_other _ _ e] at hx; exact h.small j x hx
    · simp only
      by_cases e : j = i
      · subst e; rw [upd_same, List.length_tail]; have := h.short j; omega
      · rw [upd_other _ _ e]; exact h.short j
    · simp only
      by_cases e : j = i
      · subst e; rw [upd_same]; omega
      · rw [upd_other _ _ e]; exact h.owed j
    · simp only at hj ⊢
      have e : j ≠ i := fun e => hj (e ▸ hi)
      rw [upd_other _ _ e]
      exact h.idle j hj
    · simp only at hj hne ⊢
      have e : j ≠ i := fun e => hne hf (by rw [ht, e]; rfl)
      unfold first
      simp only [upd_other _ _ e]
      refine other j ?_
      rw [ht] at hj
      rcases List.mem_cons.1 hj with e2 | hj
      · exact absurd e2 e
      · exact hj
theorem spin_ok {nq : Nat} {q : Nat → Int} (hq : ∀ i, i < nq → 1 ≤ q i ∧ q i ≤ 1500) : ∀ {n : Nat} {s : St}, Inv nq s → s.t ≠ [] → mu s < n → Inv nq (spin q n s) ∧ (spin q n s).f = true ∧ ∃ i tl, (spin q n s).t = i :: tl ∧ first (spin q n s) i ≤ (spin q n s).d i
  | 0, _, _, _, hm => by omega
  | n + 1, s, h, hne, hm => by
    obtain ⟨i, tl, ht⟩ : ∃ i tl, s.t = i :: tl := by
      cases hs : s.t with
      | nil => exact absurd hs hne
      | cons i tl => exact ⟨i, tl, rfl⟩
    have hg := inv_give hq h ht
    have hw := give_w q s i
    unfold spin
    rw [ht]
    simp only
    by_cases c : first (give q s i) i ≤ (give q s i).d i
    · rw [if_pos c]
      exact ⟨hg, hw.2.2, i, tl, by rw [hw.2.1, ht], c⟩
    · rw [if_neg c]
      have hl : (give q s i).d i < first (give q s i) i := by omega
      have hmu := mu_over hq h ht hl
      exact spin_ok hq (inv_over hg (by rw [hw.2.1, ht]) hl) (by simp [over]) (by omega)
end Go.Proofs.Ytedbidblnjajdaa.fr
