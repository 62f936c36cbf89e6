/- The plain law of package frame: frames out of bytes, byte by byte and piece by piece. No program in sight. No condition. -/
import Derived.Test.YtcpbgiikfabaaaaPlay
namespace Go.Proofs.Ytcpbgiikfabaaaa.feed

/-- a number out of bytes, the highest one first -/
def be (l : List UInt8) : Nat := l.foldl (fun n x => n * 256 + x.toNat) 0
theorem be_snoc (l : List UInt8) (x : UInt8) : be (l ++ [x]) = be l * 256 + x.toNat := by simp [be]
theorem be_take_succ (l : List UInt8) (k : Nat) (h : k < l.length) : be (l.take (k + 1)) = be (l.take k) * 256 + (l.getD k 0).toNat := by
  rw [List.take_succ_eq_append_getElem h, be_snoc, List.getD_eq_getElem?_getD, List.getElem?_eq_getElem h]
  rfl
theorem be_four (l : List UInt8) (h : 4 ≤ l.length) : be (l.take 4) = (((l.getD 0 0).toNat * 256 + (l.getD 1 0).toNat) * 256 + (l.getD 2 0).toNat) * 256 + (l.getD 3 0).toNat := by
  rw [be_take_succ l 3 (by omega), be_take_succ l 2 (by omega), be_take_succ l 1 (by omega), be_take_succ l 0 (by omega)]
  simp [be]
theorem be_lt (l : List UInt8) (k : Nat) : be (l.take k) < 256 ^ k := by
  induction k with
  | zero => simp [be]
  | succ k ih =>
    rcases Nat.lt_or_ge k l.length with h | h
    · rw [be_take_succ l k h, Nat.pow_succ]
      have := (l.getD k 0).toNat_lt
      omega
    · rw [List.take_of_length_le (by omega)]
      rw [List.take_of_length_le h] at ih
      rw [Nat.pow_succ]
      omega

abbrev St := List (List UInt8) × List UInt8
/-- a byte comes -/
def step (s : St) (x : UInt8) : Except Int St :=
  if (s.2 ++ [x]).length < 4 then .ok (s.1, s.2 ++ [x])
  else if 1024 < be ((s.2 ++ [x]).take 4) then .error 1
  else if (s.2 ++ [x]).length = 4 + be ((s.2 ++ [x]).take 4) then .ok (s.1 ++ [(s.2 ++ [x]).drop 4], [])
  else .ok (s.1, s.2 ++ [x])

theorem playTo_app {α σ : Type} (f : σ → α → Except Int σ) (a b : List α) (s : σ) : playTo f s (a ++ b) = match playTo f s a with | .error e => .error e | .ok s' => playTo f s' b := by
  induction a generalizing s with
  | nil => rfl
  | cons x r ih =>
    rw [List.cons_append, playTo_cons, playTo_cons]
    cases f s x with
    | error e => rfl
    | ok s' => exact ih s'
/-- no frame ends, and none is too long, as far as r goes -/
theorem through (o : List (List UInt8)) : ∀ (r now : List UInt8), (∀ j, 1 ≤ j → j ≤ r.length → (now ++ r.take j).length < 4 ∨ (be ((now ++ r.take j).take 4) ≤ 1024 ∧ (now ++ r.take j).length ≠ 4 + be ((now ++ r.take j).take 4))) → playTo step (o, now) r = .ok (o, now ++ r)
  | [], now, _ => by simp [playTo]
  | x :: r, now, h => by
    have h1 := h 1 (Nat.le_refl _) (by simp)
    simp only [List.take_succ_cons, List.take_zero] at h1
    have hs : step (o, now) x = .ok (o, now ++ [x]) := by
      unfold step
      dsimp only
      rcases h1 with h1 | ⟨h1, h2⟩
      · rw [if_pos h1]
      · by_cases h4 : (now ++ [x]).length < 4
        · rw [if_pos h4]
        · rw [if_neg h4, if_neg (by omega), if_neg h2]
    rw [playTo_cons, hs]
    have := through o r (now ++ [x]) (fun j hj hjr => by
      have := h (j + 1) (by omega) (by simp; omega)
      simpa using this)
    simpa using this

section
variable (o : List (List UInt8)) (l : List UInt8)
theorem short (h : l.length < 4) : playTo step (o, []) l = .ok (o, l) := by
  have := through o l [] (fun j _ _ => .inl (by simp; omega))
  simpa using this
theorem take_of_take (j : Nat) (h : 4 ≤ j) : (l.take j).take 4 = l.take 4 := by rw [List.take_take]; congr 1; omega
theorem long (h : 4 ≤ l.length) (hn : 1024 < be (l.take 4)) : playTo step (o, []) l = .error 1 := by
  have e : l = l.take 3 ++ (l.drop 3) := (List.take_append_drop 3 l).symm
  rw [e, playTo_app, short o (l.take 3) (by simp; omega), List.drop_eq_getElem_cons (by omega)]
  dsimp only
  rw [playTo_cons]
  have hs : step (o, l.take 3) l[3] = .error 1 := by
    unfold step
    dsimp only
    rw [← List.take_succ_eq_append_getElem (by omega)]
    rw [if_neg (by simp; omega), if_pos (by rw [take_of_take l 4 (by omega)]; exact hn)]
  simp only [hs]
theorem part (_h : 4 ≤ l.length) (hn : be (l.take 4) ≤ 1024) (hl : l.length < 4 + be (l.take 4)) : playTo step (o, []) l = .ok (o, l) := by
  have := through o l [] (fun j _ hj => by
    rw [List.nil_append]
    by_cases h4 : j < 4
    · exact .inl (by simp; omega)
    · rw [take_of_take l j (by omega)]
      exact .inr ⟨hn, by simp; omega⟩)
  simpa using this
theorem full (h : 4 ≤ l.length) (hn : be (l.take 4) ≤ 1024) (hl : 4 + be (l.take 4) ≤ l.length) : playTo step (o, []) l = playTo step (o ++ [(l.drop 4).take (be (l.take 4))], []) (l.drop (4 + be (l.take 4))) := by
  generalize hb : be (l.take 4) = n at *
  have e : l = l.take (3 + n) ++ l.drop (3 + n) := (List.take_append_drop _ l).symm
  have h1 : playTo step (o, []) (l.take (3 + n)) = .ok (o, l.take (3 + n)) := by
    have := through o (l.take (3 + n)) [] (fun j _ hj => by
      rw [List.length_take] at hj
      rw [List.nil_append, List.take_take, show min j (3 + n) = j by omega]
      by_cases h4 : j < 4
      · exact .inl (by simp; omega)
      · rw [take_of_take l j (by omega), hb]
        exact .inr ⟨hn, by simp; omega⟩)
    simpa using this
  have h2 : step (o, l.take (3 + n)) (l[3 + n]'(by omega)) = .ok (o ++ [(l.drop 4).take n], []) := by
    unfold step
    dsimp only
    rw [← List.take_succ_eq_append_getElem (by omega)]
    rw [if_neg (by simp; omega), take_of_take l _ (by omega), hb, if_neg (by omega), if_pos (by simp; omega)]
    congr 4
    rw [List.drop_take]
    congr 1
    omega
  conv => lhs; rw [e]
  rw [playTo_app, h1, List.drop_eq_getElem_cons (by omega)]
  dsimp only
  rw [playTo_cons]
  simp only [h2]
  rw [show 3 + n + 1 = 4 + n by omega]
end
def fed (held b : List UInt8) : Except Int St := if 1027 < held.length then .error 10 else playTo step ([], []) (held ++ b)
end Go.Proofs.Ytcpbgiikfabaaaa.feed
