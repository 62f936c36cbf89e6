/- The plain law of package path: names, parts of a path, walks. No condition. -/
import Derived.Test.YtcpbgiikfabaaaaPlay
namespace Go.Proofs.Ytcpbgiikfabaaaa.pa

/-- is it a name? -/
def name (s : List UInt8) : Bool := decide (1 ≤ s.length) && decide (s.length ≤ 16) && !decide (s = [46]) && !decide (s = [46, 46]) && s.all (fun b => !(b == 0) && !(b == 47))
/-- one part of a path -/
def step (o : List (List UInt8)) (p : List UInt8) : Except Int (List (List UInt8)) :=
  if p = [] ∨ p = [46] then .ok o else if p = [46, 46] then .ok o.dropLast else if name p = false then .error 4 else if o.length = 12 then .error 9 else .ok (o ++ [p])
/-- the parts of a path, one begun -/
def split (acc : List UInt8) : List UInt8 → List (List UInt8)
  | [] => [acc]
  | b :: t => if b = 47 then acc :: split [] t else split (acc ++ [b]) t
def walk (o : List (List UInt8)) (p : List UInt8) : Except Int (List (List UInt8)) := if 200 < p.length then .error 1 else playTo step o (split [] p)
/-- what is refused of names -/
def fault (l : List (List UInt8)) : Int := if 12 < l.length then 9 else if l.all name = true then 0 else 4
def join (l : List (List UInt8)) : List UInt8 := l.foldl (fun a s => a ++ 47 :: s) []
def joined (l : List (List UInt8)) : List UInt8 := if join l = [] then [47] else join l
def follow (o : List (List UInt8)) (p : List UInt8) : Except Int (List (List UInt8)) :=
  if fault o = 0 then (if p.head? = some 47 then walk [] p else walk o p) else .error (fault o)

theorem step_len {o o' : List (List UInt8)} {p : List UInt8} (h : step o p = .ok o') (ho : o.length ≤ 12) : o'.length ≤ 12 := by
  unfold step at h
  split at h
  · cases h; exact ho
  · split at h
    · cases h; rw [List.length_dropLast]; omega
    · split at h
      · cases h
      · split at h
        · cases h
        · cases h; rw [List.length_append, List.length_singleton]; omega
theorem step_dot {o : List (List UInt8)} {p : List UInt8} (h : p = [] ∨ p = [46]) : step o p = .ok o := if_pos h
theorem step_up {o : List (List UInt8)} : step o [46, 46] = .ok o.dropLast := rfl
theorem step_form {o : List (List UInt8)} {p : List UInt8} (h1 : p ≠ []) (h2 : p ≠ [46]) (h3 : p ≠ [46, 46]) (hn : name p = false) : step o p = .error 4 := by
  unfold step
  rw [if_neg (by simp [h1, h2]), if_neg h3, if_pos hn]
theorem step_full {o : List (List UInt8)} {p : List UInt8} (h1 : p ≠ []) (h2 : p ≠ [46]) (h3 : p ≠ [46, 46]) (hn : name p = true) (ho : o.length = 12) : step o p = .error 9 := by
  unfold step
  rw [if_neg (by simp [h1, h2]), if_neg h3, if_neg (by rw [hn]; simp), if_pos ho]
theorem step_on {o : List (List UInt8)} {p : List UInt8} (h1 : p ≠ []) (h2 : p ≠ [46]) (h3 : p ≠ [46, 46]) (hn : name p = true) (ho : ¬ o.length = 12) : step o p = .ok (o ++ [p]) := by
  unfold step
  rw [if_neg (by simp [h1, h2]), if_neg h3, if_neg (by rw [hn]; simp), if_neg ho]

theorem split_free (acc s : List UInt8) (h : ∀ b ∈ s, b ≠ 47) : split acc s = [acc ++ s] := by
  induction s generalizing acc with
  | nil => simp [split]
  | cons b t ih =>
    show (if b = 47 then _ else _) = _
    rw [if_neg (h b (by simp)), ih (acc ++ [b]) (fun c hc => h c (by simp [hc]))]
    simp
theorem split_at (acc s t : List UInt8) (h : ∀ b ∈ s, b ≠ 47) : split acc (s ++ 47 :: t) = (acc ++ s) :: split [] t := by
  induction s generalizing acc with
  | nil => simp [split]
  | cons b r ih =>
    rw [List.cons_append, split, if_neg (h b (by simp)), ih (acc ++ [b]) (fun c hc => h c (by simp [hc]))]
    simp
theorem split_drop (acc : List UInt8) {l : List UInt8} {i : Nat} (hi : i < l.length) : split acc (l.drop i) = if l.getD i 0 = 47 then acc :: split [] (l.drop (i + 1)) else split (acc ++ [l.getD i 0]) (l.drop (i + 1)) := by
  rw [drop_getD l 0 hi]
  rfl
theorem split_len (acc s : List UInt8) : (split acc s).length ≤ s.length + 1 := by
  induction s generalizing acc with
  | nil => simp [split]
  | cons b t ih =>
    show (if b = 47 then _ else _ : List (List UInt8)).length ≤ _
    split
    · have := ih []
      simp only [List.length_cons]
      omega
    · have := ih (acc ++ [b])
      simp only [List.length_cons]
      omega
theorem split_part (acc s : List UInt8) : ∀ p ∈ split acc s, p.length ≤ acc.length + s.length := by
  induction s generalizing acc with
  | nil => intro p hp; simp [split] at hp; subst hp; simp
  | cons b t ih =>
    intro p hp
    change p ∈ (if b = 47 then _ else _ : List (List UInt8)) at hp
    split at hp
    · rcases List.mem_cons.1 hp with rfl | hp
      · simp
      · have := ih [] p hp
        simp only [List.length_cons, List.length_nil] at *
        omega
    · have := ih _ p hp
      simp only [List.length_cons, List.length_append, List.length_nil] at *
      omega
theorem name_iff (s : List UInt8) : name s = true ↔ 1 ≤ s.length ∧ s.length ≤ 16 ∧ s ≠ [46] ∧ s ≠ [46, 46] ∧ ∀ b ∈ s, b ≠ 0 ∧ b ≠ 47 := by
  unfold name
  simp [List.all_eq_true, and_assoc]
end Go.Proofs.Ytcpbgiikfabaaaa.pa
