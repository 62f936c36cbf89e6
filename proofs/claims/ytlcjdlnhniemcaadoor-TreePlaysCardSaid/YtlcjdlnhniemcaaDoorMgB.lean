/- Texts in one: Play, PathP, TreeP, TreeQ. No condition. -/
import Derived.Test.YtlcjdlnhniemcaaDoorTypes
section
namespace Go.Proofs.YtlcjdlnhniemcaaDoor

/-- what becomes of a state, element by element, up to the first fault -/
def playTo {α σ : Type} (step : σ → α → Except Int σ) (s : σ) : List α → Except Int σ
  | [] => .ok s
  | x :: r => match step s x with
    | .error e => .error e
    | .ok s' => playTo step s' r
theorem playTo_cons {α σ : Type} {step : σ → α → Except Int σ} {s : σ} {x : α} {r : List α} : playTo step s (x :: r) = match step s x with | .error e => .error e | .ok s' => playTo step s' r := rfl
theorem drop_getD {α : Type} (l : List α) (z : α) {k : Nat} (h : k < l.length) : l.drop k = l.getD k z :: l.drop (k + 1) := by
  rw [List.drop_eq_getElem_cons h, List.getD_eq_getElem?_getD, List.getElem?_eq_getElem h]
  rfl
theorem play_ok {α σ : Type} {step : σ → α → Except Int σ} {s s' : σ} {l : List α} (z : α) {k : Nat} (h : k < l.length) (hs : step s (l.getD k z) = .ok s') : playTo step s (l.drop k) = playTo step s' (l.drop (k + 1)) := by
  rw [drop_getD l z h, playTo_cons, hs]
theorem play_no {α σ : Type} {step : σ → α → Except Int σ} {s : σ} {e : Int} {l : List α} (z : α) {k : Nat} (h : k < l.length) (hs : step s (l.getD k z) = .error e) : playTo step s (l.drop k) = .error e := by
  rw [drop_getD l z h, playTo_cons, hs]
theorem play_end {α σ : Type} {step : σ → α → Except Int σ} {s : σ} {l : List α} : playTo step s (l.drop l.length) = .ok s := by
  rw [List.drop_length]
  rfl
end Go.Proofs.YtlcjdlnhniemcaaDoor
end
section
namespace Go.Proofs.YtlcjdlnhniemcaaDoor.pa

/-- is it a name? -/
def name (s : List UInt8) : Bool := decide (1 ≤ s.length) && decide (s.length ≤ 16) && !decide (s = [46]) && !decide (s = [46, 46]) && s.all (fun b => !(b == 0) && !(b == 47))
/-- one part of a path -/
def step (o : List (List UInt8)) (p : List UInt8) : Except Int (List (List UInt8)) :=
  if p = [] ∨ p = [46] then .ok o else if p = [46, 46] then .ok o.dropLast else if name p = false then .error 4 else if o.length = 12 then .error 9 else .ok (o ++ [p])
/-- the parts of a path, one begun -/
def split (acc : List UInt8) : List UInt8 → List (List UInt8)
  | [] => [acc]
  | b :: t => if b = 47 then acc :: split [] t else split (acc ++ [b]) t
def walk (o : List (List UInt8)) (p : List UInt8) : Except Int (List (List UInt8)) := if 200 < p.length then .error 1 else playTo step o (split [] p)
/-- what is refused of names -/
def fault (l : List (List UInt8)) : Int := if 12 < l.length then 9 else if l.all name = true then 0 else 4
def join (l : List (List UInt8)) : List UInt8 := l.foldl (fun a s => a ++ 47 :: s) []
def joined (l : List (List UInt8)) : List UInt8 := if join l = [] then [47] else join l
def follow (o : List (List UInt8)) (p : List UInt8) : Except Int (List (List UInt8)) :=
  if fault o = 0 then (if p.head? = some 47 then walk [] p else walk o p) else .error (fault o)

theorem step_len {o o' : List (List UInt8)} {p : List UInt8} (h : step o p = .ok o') (ho : o.length ≤ 12) : o'.length ≤ 12 := by
  unfold step at h
  split at h
  · cases h; exact ho
  · split at h
    · cases h; rw [List.length_dropLast]; omega
    · split at h
      · cases h
      · split at h
        · cases h
        · cases h; rw [List.length_append, List.length_singleton]; omega
theorem step_dot {o : List (List UInt8)} {p : List UInt8} (h : p = [] ∨ p = [46]) : step o p = .ok o := if_pos h
theorem step_up {o : List (List UInt8)} : step o [46, 46] = .ok o.dropLast := rfl
theorem step_form {o : List (List UInt8)} {p : List UInt8} (h1 : p ≠ []) (h2 : p ≠ [46]) (h3 : p ≠ [46, 46]) (hn : name p = false) : step o p = .error 4 := by
  unfold step
  rw [if_neg (by simp [h1, h2]), if_neg h3, if_pos hn]
theorem step_full {o : List (List UInt8)} {p : List UInt8} (h1 : p ≠ []) (h2 : p ≠ [46]) (h3 : p ≠ [46, 46]) (hn : name p = true) (ho : o.length = 12) : step o p = .error 9 := by
  unfold step
  rw [if_neg (by simp [h1, h2]), if_neg h3, if_neg (by rw [hn]; simp), if_pos ho]
theorem step_on {o : List (List UInt8)} {p : List UInt8} (h1 : p ≠ []) (h2 : p ≠ [46]) (h3 : p ≠ [46, 46]) (hn : name p = true) (ho : ¬ o.length = 12) : step o p = .ok (o ++ [p]) := by
  unfold step
  rw [if_neg (by simp [h1, h2]), if_neg h3, if_neg (by rw [hn]; simp), if_neg ho]

theorem split_free (acc s : List UInt8) (h : ∀ b ∈ s, b ≠ 47) : split acc s = [acc ++ s] := by
  induction s generalizing acc with
  | nil => simp [split]
  | cons b t ih =>
    show (if b = 47 then _ else _) = _
    rw [if_neg (h b (by simp)), ih (acc ++ [b]) (fun c hc => h c (by simp [hc]))]
    simp
theorem split_at (acc s t : List UInt8) (h : ∀ b ∈ s, b ≠ 47) : split acc (s ++ 47 :: t) = (acc ++ s) :: split [] t := by
  induction s generalizing acc with
  | nil => simp [split]
  | cons b r ih =>
    rw [List.cons_append, split, if_neg (h b (by simp)), ih (acc ++ [b]) (fun c hc => h c (by simp [hc]))]
    simp
theorem split_drop (acc : List UInt8) {l : List UInt8} {i : Nat} (hi : i < l.length) : split acc (l.drop i) = if l.getD i 0 = 47 then acc :: split [] (l.drop (i + 1)) else split (acc ++ [l.getD i 0]) (l.drop (i + 1)) := by
  rw [drop_getD l 0 hi]
  rfl
theorem split_len (acc s : List UInt8) : (split acc s).length ≤ s.length + 1 := by
  induction s generalizing acc with
  | nil => simp [split]
  | cons b t ih =>
    show (if b = 47 then _ else _ : List (List UInt8)).length ≤ _
    split
    · have := ih []
      simp only [List.length_cons]
      omega
    · have := ih (acc ++ [b])
      simp only [List.length_cons]
      omega
theorem split_part (acc s : List UInt8) : ∀ p ∈ split acc s, p.length ≤ acc.length + s.length := by
  induction s generalizing acc with
  | nil => intro p hp; simp [split] at hp; subst hp; simp
  | cons b t ih =>
    intro p hp
    change p ∈ (if b = 47 then _ else _ : List (List UInt8)) at hp
    split at hp
    · rcases List.mem_cons.1 hp with rfl | hp
      · simp
      · have := ih [] p hp
        simp only [List.length_cons, List.length_nil] at *
        omega
    · have := ih _ p hp
      simp only [List.length_cons, List.length_append, List.length_nil] at *
      omega
theorem name_iff (s : List UInt8) : name s = true ↔ 1 ≤ s.length ∧ s.length ≤ 16 ∧ s ≠ [46] ∧ s ≠ [46, 46] ∧ ∀ b ∈ s, b ≠ 0 ∧ b ≠ 47 := by
  unfold name
  simp [List.all_eq_true, and_assoc]
end Go.Proofs.YtlcjdlnhniemcaaDoor.pa
end
section
namespace Go.Proofs.YtlcjdlnhniemcaaDoor.tr

structure Item where
  kind : Int
  par : Int
  name : List UInt8
  data : List UInt8
  to : List UInt8
  gone : Bool
def z : Item := ⟨0, 0, [], [], [], true⟩
def Item.wd (x : Item) (D : List UInt8) : Item := ⟨x.kind, x.par, x.name, D, x.to, x.gone⟩
def Item.off (x : Item) : Item := ⟨x.kind, x.par, x.name, x.data, x.to, true⟩
def Item.mv (x : Item) (d : Nat) (nm : List UInt8) : Item := ⟨x.kind, d, nm, x.data, x.to, x.gone⟩
def Item.put (x : Item) (d : Nat) (nm : List UInt8) : Item := ⟨x.kind, d, nm, x.data, x.to, false⟩
def it (W : List Item) (i : Nat) : Item := W.getD i z
def Live (W : List Item) (i : Nat) : Prop := (it W i).gone = false
theorem it_at {W : List Item} {i : Nat} (h : i < W.length) : W[i]? = some (it W i) := by
  unfold it
  rw [List.getD_eq_getElem?_getD, List.getElem?_eq_getElem h]
  rfl
theorem Live.lt {W : List Item} {i : Nat} (h : Live W i) : i < W.length := by
  rcases Nat.lt_or_ge i W.length with h1 | h1
  · exact h1
  · unfold Live it at h
    rw [List.getD_eq_getElem?_getD, List.getElem?_eq_none h1] at h
    cases h
theorem it_set {W : List Item} {n : Nat} (h : n < W.length) (x : Item) (i : Nat) : it (W.set n x) i = if i = n then x else it W i := by
  unfold it
  rw [List.getD_eq_getElem?_getD, List.getD_eq_getElem?_getD, List.getElem?_set]
  by_cases e : n = i
  · subst e
    rw [if_pos rfl, if_pos h, if_pos rfl]
    rfl
  · rw [if_neg e, if_neg (fun h => e h.symm)]
theorem it_snoc (W : List Item) (x : Item) (i : Nat) : it (W ++ [x]) i = if i = W.length then x else it W i := by
  unfold it
  rw [List.getD_eq_getElem?_getD, List.getD_eq_getElem?_getD]
  rcases Nat.lt_trichotomy i W.length with h | h | h
  · rw [List.getElem?_append_left h, if_neg (by omega)]
  · subst h
    rw [List.getElem?_append_right (Nat.le_refl _), Nat.sub_self, if_pos rfl]
    rfl
  · rw [List.getElem?_append_right (by omega), if_neg (by omega), List.getElem?_eq_none (by simp; omega), List.getElem?_eq_none (by omega)]
/-- is it in that directory? -/
def kid (W : List Item) (d i : Nat) : Bool := decide (0 < i) && !(it W i).gone && decide ((it W i).par = (d : Int))
def isChild (W : List Item) (d : Nat) (nm : List UInt8) (i : Nat) : Bool := kid W d i && decide ((it W i).name = nm)
theorem kid_iff {W : List Item} {d i : Nat} : kid W d i = true ↔ 0 < i ∧ Live W i ∧ (it W i).par = d := by
  unfold kid Live
  simp [and_assoc]
theorem isChild_iff {W : List Item} {d i : Nat} {nm : List UInt8} : isChild W d nm i = true ↔ 0 < i ∧ Live W i ∧ (it W i).par = d ∧ (it W i).name = nm := by
  unfold isChild
  rw [Bool.and_eq_true, kid_iff, decide_eq_true_iff]
  simp [and_assoc]
def child (W : List Item) (d : Nat) (nm : List UInt8) : Option Nat := (List.range W.length).find? (isChild W d nm)
def kids (W : List Item) (d : Nat) : List Nat := (List.range W.length).filter (kid W d)
theorem find_range {p : Nat → Bool} : ∀ {n i : Nat}, i < n → p i = true → (∀ j, j < i → p j = false) → (List.range n).find? p = some i
  | 0, _, h, _, _ => by omega
  | n + 1, i, h, hp, hn => by
    rw [List.range_succ, List.find?_append]
    rcases Nat.lt_or_ge i n with h1 | h1
    · rw [find_range h1 hp hn]
      rfl
    · have : i = n := by omega
      subst this
      have e : (List.range i).find? p = none := List.find?_eq_none.2 fun j hj => by
        rw [hn j (List.mem_range.1 hj)]
        simp
      rw [e]
      simp [hp]
theorem child_at {W : List Item} {d i : Nat} {nm : List UInt8} (h : i < W.length) (hc : isChild W d nm i = true) (hn : ∀ j, j < i → isChild W d nm j = false) : child W d nm = some i := find_range h hc hn
theorem child_no {W : List Item} {d : Nat} {nm : List UInt8} (hn : ∀ j, j < W.length → isChild W d nm j = false) : child W d nm = none :=
  List.find?_eq_none.2 fun j hj => by
    rw [hn j (List.mem_range.1 hj)]
    simp
theorem child_some {W : List Item} {d i : Nat} {nm : List UInt8} (h : child W d nm = some i) : isChild W d nm i = true := List.find?_some h
theorem child_none {W : List Item} {d : Nat} {nm : List UInt8} (h : child W d nm = none) (i : Nat) : isChild W d nm i = false := by
  cases e : isChild W d nm i with
  | false => rfl
  | true =>
    have hl := (isChild_iff.1 e).2.1.lt
    have := List.find?_eq_none.1 h i (List.mem_range.2 hl)
    exact absurd e this

/-! ### Paths from the root on -/
inductive Path (W : List Item) : Nat → List (List UInt8) → Prop
  | root : Path W 0 []
  | step {i d : Nat} {l : List (List UInt8)} : 0 < i → Live W i → (it W i).par = d → Path W d l → Path W i (l ++ [(it W i).name])
theorem Path.unique {W : List Item} {i : Nat} {l m : List (List UInt8)} (h : Path W i l) (k : Path W i m) : l = m := by
  induction h generalizing m with
  | root => cases k with
    | root => rfl
    | step h1 _ _ _ => omega
  | step h1 h2 h3 h4 ih => cases k with
    | root => omega
    | step k1 k2 k3 k4 =>
      rw [h3] at k3
      have := Int.ofNat.inj k3
      subst this
      rw [ih k4]
theorem Path.bound (W : List Item) : ∀ n, ∃ D, ∀ i, i < n → ∀ l, Path W i l → l.length ≤ D
  | 0 => ⟨0, fun i h => by omega⟩
  | n + 1 => by
    obtain ⟨D, hD⟩ := Path.bound W n
    by_cases h : ∃ l, Path W n l
    · obtain ⟨l, hl⟩ := h
      refine ⟨max D l.length, fun i hi m hm => ?_⟩
      rcases Nat.lt_or_ge i n with h1 | h1
      · have := hD i h1 m hm
        omega
      · have : i = n := by omega
        subst this
        rw [hm.unique hl]
        omega
    · refine ⟨D, fun i hi m hm => ?_⟩
      rcases Nat.lt_or_ge i n with h1 | h1
      · exact hD i h1 m hm
      · have : i = n := by omega
        subst this
        exact absurd ⟨m, hm⟩ h
/-- n lies on the way from i up to the root -/
inductive On (W : List Item) (n : Nat) : Nat → Prop
  | here : On W n n
  | up {i d : Nat} : 0 < i → Live W i → (it W i).par = d → On W n d → On W n i
theorem on_iff {W : List Item} {n d : Nat} : On W n d ↔ n = d ∨ ∃ c, kid W n c = true ∧ On W c d := by
  constructor
  · intro h
    induction h with
    | here => exact .inl rfl
    | @up i p h1 h2 h3 h4 ih =>
      rcases ih with rfl | ⟨c, c1, c2⟩
      · exact .inr ⟨i, kid_iff.2 ⟨h1, h2, h3⟩, .here⟩
      · exact .inr ⟨c, c1, .up h1 h2 h3 c2⟩
  · rintro (rfl | ⟨c, c1, c2⟩)
    · exact .here
    · obtain ⟨k1, k2, k3⟩ := kid_iff.1 c1
      induction c2 with
      | here => exact .up k1 k2 k3 .here
      | up h1 h2 h3 h4 ih => exact .up h1 h2 h3 ih
theorem on_up {W : List Item} {n i d : Nat} (h1 : 0 < i) (h2 : Live W i) (h3 : (it W i).par = d) (hne : i ≠ n) : On W n i ↔ On W n d := by
  constructor
  · intro h
    cases h with
    | here => exact absurd rfl hne
    | up k1 k2 k3 k4 =>
      rw [h3] at k3
      have := Int.ofNat.inj k3
      subst this
      exact k4
  · exact .up h1 h2 h3
theorem on_root {W : List Item} {n : Nat} (h : On W n 0) : n = 0 := by
  cases h with
  | here => rfl
  | up h1 _ _ _ => omega

/-! ### What is found -/
inductive Look where
  | done (n : Nat)
  | err (e : Int)
  | on (pre : List (List UInt8)) (n : Nat) (rest : List (List UInt8))
/-- names looked up, as far as a link that leads on -/
def look (W : List Item) (follow : Bool) (d : Nat) (pre : List (List UInt8)) : List (List UInt8) → Look
  | [] => .done d
  | nm :: rest => if (it W d).kind = 1 then (match child W d nm with
    | none => .err 7
    | some n => if (it W n).kind = 3 ∧ (follow = true ∨ rest ≠ []) then .on pre n rest else look W follow n (pre ++ [nm]) rest) else .err 15
/-- the node of names, j links at most -/
def find (W : List Item) (follow : Bool) : Nat → List (List UInt8) → Except Int Nat
  | 0, names => match look W follow 0 [] names with
    | .done n => .ok n
    | .err e => .error e
    | .on _ _ _ => .error 13
  | j + 1, names => match look W follow 0 [] names with
    | .done n => .ok n
    | .err e => .error e
    | .on pre n rest => match pa.follow pre (it W n).to with
      | .error e => .error e
      | .ok o => if 12 < (o ++ rest).length then .error 9 else find W follow j (o ++ rest)
def spot (W : List Item) (names : List (List UInt8)) : Except Int (Nat × List UInt8) :=
  if names = [] then .error 8 else match find W true 8 names.dropLast with
    | .error e => .error e
    | .ok d => if (it W d).kind = 1 then (if (child W d (names.getLast?.getD [])).isSome then .error 8 else .ok (d, names.getLast?.getD [])) else .error 15
def liveN (W : List Item) : Nat := (W.filter fun x => !x.gone).length
def add (W : List Item) (names : List (List UInt8)) (x : Item) : List Item × Int :=
  match spot W names with
    | .error e => (W, e)
    | .ok (d, last) => if 40 ≤ liveN W then (W, 9) else (W ++ [x.put d last], 0)
def seen (c : Int) : Seen := ⟨c, 0, 0, [], []⟩
def fits (n : Int) : Prop := 0 ≤ n ∧ n ≤ 2048
instance (n : Int) : Decidable (fits n) := by unfold fits; exact inferInstance
/-- longer by zeros, or as long as it is -/
def zeros (d : List UInt8) (n : Nat) : List UInt8 := d ++ List.replicate (n - d.length) 0
def putD (d : List UInt8) (p : Nat) (x : List UInt8) : List UInt8 := (zeros d (p + x.length)).take p ++ x ++ (zeros d (p + x.length)).drop (p + x.length)
def getD_ (d : List UInt8) (p n : Nat) : List UInt8 := (d.drop p).take n
def cutD (d : List UInt8) (n : Nat) : List UInt8 := (zeros d n).take n
/-- an act on a file -/
def fdo (d : List UInt8) (a : Act_) : List UInt8 × Seen :=
  if (a.kind ≠ 5 ∧ ¬ fits a.at_) ∨ (a.kind ≠ 3 ∧ ¬ fits a.count) then (d, seen 2)
  else if a.kind = 3 then (if 2048 < a.at_ + a.data.length then (d, seen 11) else (putD d a.at_.toNat a.data, ⟨0, 0, (putD d a.at_.toNat a.data).length, [], []⟩))
  else if a.kind = 4 then (d, ⟨0, 0, 0, getD_ d a.at_.toNat a.count.toNat, []⟩)
  else (cutD d a.count.toNat, ⟨0, 0, (cutD d a.count.toNat).length, [], []⟩)
end Go.Proofs.YtlcjdlnhniemcaaDoor.tr
end
section
namespace Go.Proofs.YtlcjdlnhniemcaaDoor.tr

structure Inv (W : List Item) : Prop where
  pos : 0 < W.length
  root : (it W 0).kind = 1 ∧ (it W 0).gone = false ∧ (it W 0).par = -1
  par : ∀ i, 0 < i → Live W i → ∃ d : Nat, (it W i).par = d ∧ Live W d ∧ (it W d).kind = 1
  one : ∀ i j, 0 < i → 0 < j → Live W i → Live W j → (it W i).par = (it W j).par → (it W i).name = (it W j).name → i = j
  path : ∀ i, Live W i → ∃ l, Path W i l
  kind : ∀ i, Live W i → (it W i).kind = 1 ∨ (it W i).kind = 2 ∨ (it W i).kind = 3
  name : ∀ i, 0 < i → Live W i → (it W i).name.length ≤ 16
  data : ∀ i, Live W i → (it W i).data.length ≤ 2048
  to : ∀ i, Live W i → (it W i).to.length ≤ 200
  few : liveN W ≤ 40

def start : List Item := [⟨1, -1, [], [], [], false⟩]
theorem liveN_snoc (W : List Item) (x : Item) : liveN (W ++ [x]) = liveN W + if x.gone then 0 else 1 := by
  unfold liveN
  rw [List.filter_append, List.length_append]
  cases hx : x.gone <;> simp [hx]
theorem liveN_set : ∀ (W : List Item) (n : Nat) (x : Item), n < W.length → liveN (W.set n x) + (if (it W n).gone then 0 else 1) = liveN W + (if x.gone then 0 else 1)
  | [], n, x, h => by simp at h
  | y :: W, 0, x, _ => by
    rw [List.set_cons_zero]
    show liveN (x :: W) + (if y.gone then 0 else 1) = liveN (y :: W) + _
    unfold liveN
    cases hx : x.gone <;> cases hy : y.gone <;> simp [hx, hy]
  | y :: W, n + 1, x, h => by
    have ih := liveN_set W n x (by simpa using h)
    rw [List.set_cons_succ]
    show liveN (y :: W.set n x) + (if (it W n).gone then 0 else 1) = liveN (y :: W) + _
    have e : ∀ V : List Item, liveN (y :: V) = liveN V + (if y.gone then 0 else 1) := fun V => by
      unfold liveN
      cases hy : y.gone <;> simp [hy]
    rw [e, e]
    omega
theorem Inv.start : Inv start := by
  have l0 : ∀ i, Live tr.start i → i = 0 := fun i h => by
    have := h.lt
    simp [tr.start] at this
    omega
  refine ⟨by simp [tr.start], ⟨rfl, rfl, rfl⟩, fun i h1 h2 => ?_, fun i j h1 _ h2 => ?_, fun i h => ?_, fun i h => ?_, fun i h1 h2 => ?_, fun i h => ?_, fun i h => ?_, by decide⟩
  · have := l0 i h2; omega
  · have := l0 i h2; omega
  · rw [l0 i h]; exact ⟨[], .root⟩
  · rw [l0 i h]; exact .inl rfl
  · have := l0 i h2; omega
  · rw [l0 i h]; simp [tr.start, it]
  · rw [l0 i h]; simp [tr.start, it]
section
variable {W : List Item}
theorem child_iff (h : Inv W) {d i : Nat} {nm : List UInt8} : child W d nm = some i ↔ isChild W d nm i = true := by
  constructor
  · exact child_some
  · intro hc
    cases e : child W d nm with
    | none => rw [child_none e i] at hc; cases hc
    | some j =>
      have hj := isChild_iff.1 (child_some e)
      have hi := isChild_iff.1 hc
      rw [h.one i j hi.1 hj.1 hi.2.1 hj.2.1 (hi.2.2.1.trans hj.2.2.1.symm) (hi.2.2.2.trans hj.2.2.2.symm)]
theorem child_live {d i : Nat} {nm : List UInt8} (h : child W d nm = some i) : 0 < i ∧ Live W i ∧ (it W i).par = d ∧ (it W i).name = nm := isChild_iff.1 (child_some h)
/-- two lists of nodes in which the same is a child give the same child, the names being told apart -/
theorem child_congr {V : List Item} {d : Nat} {nm : List UInt8} (hW : ∀ i, isChild W d nm i = isChild V d nm i) (hone : ∀ i j, isChild W d nm i = true → isChild W d nm j = true → i = j) : child W d nm = child V d nm := by
  cases e : child W d nm with
  | none =>
    cases e2 : child V d nm with
    | none => rfl
    | some j =>
      have := child_none e j
      rw [hW, child_some e2] at this
      cases this
  | some i =>
    cases e2 : child V d nm with
    | none =>
      have := child_none e2 i
      rw [← hW, child_some e] at this
      cases this
    | some j =>
      have h1 := child_some e
      have h2 := child_some e2
      rw [← hW] at h2
      rw [hone i j h1 h2]
theorem one_child (h : Inv W) {d : Nat} {nm : List UInt8} {i j : Nat} (hi : isChild W d nm i = true) (hj : isChild W d nm j = true) : i = j := by
  have := (child_iff h).2 hi
  rw [(child_iff h).2 hj] at this
  cases this
  rfl

/-! ### A node more -/
theorem live_snoc {x : Item} {i : Nat} : Live (W ++ [x]) i ↔ (i = W.length ∧ x.gone = false) ∨ Live W i := by
  unfold Live
  rw [it_snoc]
  constructor
  · intro h
    split at h
    · next e => exact .inl ⟨e, h⟩
    · exact .inr h
  · rintro (⟨e, h⟩ | h)
    · rw [if_pos e]; exact h
    · have := (show Live W i from h).lt
      rw [if_neg (by omega)]
      exact h
theorem child_snoc (h : Inv W) {x : Item} {d : Nat} (hx : x.gone = false) (hp : x.par = d) (hno : child W d x.name = none) (d' : Nat) (s : List UInt8) :
    child (W ++ [x]) d' s = if d' = d ∧ s = x.name then some W.length else child W d' s := by
  have key : ∀ i, isChild (W ++ [x]) d' s i = true ↔ (i = W.length ∧ d' = d ∧ s = x.name) ∨ isChild W d' s i = true := fun i => by
    rw [isChild_iff, isChild_iff, live_snoc, it_snoc]
    have hl := h.pos
    by_cases e : i = W.length
    · subst e
      rw [if_pos rfl, hp]
      constructor
      · rintro ⟨_, _, h3, h4⟩
        exact .inl ⟨rfl, (Int.ofNat.inj h3).symm, h4.symm⟩
      · rintro (⟨_, rfl, rfl⟩ | ⟨_, h2, _⟩)
        · exact ⟨hl, .inl ⟨rfl, hx⟩, rfl, rfl⟩
        · exact absurd h2.lt (by omega)
    · rw [if_neg e]
      simp [e]
  split
  · next c =>
    obtain ⟨rfl, rfl⟩ := c
    cases e : child (W ++ [x]) d' x.name with
    | none =>
      have := child_none e W.length
      rw [(key W.length).2 (.inl ⟨rfl, rfl, rfl⟩)] at this
      cases this
    | some j =>
      rcases (key j).1 (child_some e) with ⟨rfl, _⟩ | h2
      · rfl
      · rw [child_none hno j] at h2
        cases h2
  · next c =>
    refine child_congr (fun i => ?_) (fun i j hi hj => ?_)
    · cases e : isChild W d' s i with
      | true => exact (key i).2 (.inr e)
      | false =>
        cases e2 : isChild (W ++ [x]) d' s i with
        | false => rfl
        | true =>
          rcases (key i).1 e2 with ⟨_, h2, h3⟩ | h2
          · exact absurd ⟨h2, h3⟩ c
          · rw [e] at h2; cases h2
    · rcases (key i).1 hi with ⟨_, h2, h3⟩ | h2
      · exact absurd ⟨h2, h3⟩ c
      · rcases (key j).1 hj with ⟨_, h4, h5⟩ | h4
        · exact absurd ⟨h4, h5⟩ c
        · exact one_child h h2 h4
theorem Path.snoc {x : Item} {i : Nat} {l : List (List UInt8)} (h : Path W i l) : Path (W ++ [x]) i l := by
  induction h with
  | root => exact .root
  | @step i d l h1 h2 h3 h4 ih =>
    have e : it (W ++ [x]) i = it W i := by rw [it_snoc, if_neg (by have := h2.lt; omega)]
    rw [← e]
    exact .step h1 (live_snoc.2 (.inr h2)) (by rw [e]; exact h3) ih
theorem Inv.snoc (h : Inv W) {x : Item} {d : Nat} (hx : x.gone = false) (hp : x.par = d) (hd : Live W d) (hdk : (it W d).kind = 1) (hno : child W d x.name = none) (hk : x.kind = 1 ∨ x.kind = 2 ∨ x.kind = 3) (hn : x.name.length ≤ 16) (hda : x.data.length ≤ 2048) (hto : x.to.length ≤ 200) (hf : liveN W < 40) : Inv (W ++ [x]) := by
  have old : ∀ i, Live W i → it (W ++ [x]) i = it W i := fun i hi => by rw [it_snoc, if_neg (by have := hi.lt; omega)]
  have new : it (W ++ [x]) W.length = x := by rw [it_snoc, if_pos rfl]
  have hpos := h.pos
  have h0 : Live W 0 := h.root.2.1
  have cs : ∀ i, Live (W ++ [x]) i → (i = W.length) ∨ Live W i := fun i hi => by
    rcases live_snoc.1 hi with ⟨e, _⟩ | e
    · exact .inl e
    · exact .inr e
  have up : ∀ i, Live W i → Live (W ++ [x]) i := fun i hi => live_snoc.2 (.inr hi)
  have sib : ∀ j, 0 < j → Live W j → (it W j).par = x.par → (it W j).name ≠ x.name := fun j h1 h2 h3 h4 => by
    have := child_none hno j
    rw [isChild_iff.2 ⟨h1, h2, h3.trans hp, h4⟩] at this
    cases this
  refine ⟨by rw [List.length_append]; omega, by rw [old 0 h0]; exact h.root, fun i h1 h2 => ?_, fun i j hi hj li lj hpp hnn => ?_, fun i hi => ?_, fun i hi => ?_, fun i h1 hi => ?_, fun i hi => ?_, fun i hi => ?_, ?_⟩
  · rcases cs i h2 with rfl | hi
    · rw [new]; exact ⟨d, hp, up d hd, by rw [old d hd]; exact hdk⟩
    · obtain ⟨d', e1, e2, e3⟩ := h.par i h1 hi
      rw [old i hi]
      exact ⟨d', e1, up d' e2, by rw [old d' e2]; exact e3⟩
  · rcases cs i li with e1 | li2
    · rcases cs j lj with e2 | lj2
      · omega
      · subst e1
        rw [new, old j lj2] at hpp hnn
        exact absurd hnn.symm (sib j hj lj2 hpp.symm)
    · rcases cs j lj with e2 | lj2
      · subst e2
        rw [new, old i li2] at hpp hnn
        exact absurd hnn (sib i hi li2 hpp)
      · rw [old i li2, old j lj2] at hpp hnn
        exact h.one i j hi hj li2 lj2 hpp hnn
  · rcases cs i hi with rfl | hi2
    · obtain ⟨l, hl⟩ := h.path d hd
      exact ⟨_, .step (by omega) hi (by rw [new]; exact hp) hl.snoc⟩
    · obtain ⟨l, hl⟩ := h.path i hi2
      exact ⟨l, hl.snoc⟩
  · rcases cs i hi with rfl | hi2
    · rw [new]; exact hk
    · rw [old i hi2]; exact h.kind i hi2
  · rcases cs i hi with rfl | hi2
    · rw [new]; exact hn
    · rw [old i hi2]; exact h.name i h1 hi2
  · rcases cs i hi with rfl | hi2
    · rw [new]; exact hda
    · rw [old i hi2]; exact h.data i hi2
  · rcases cs i hi with rfl | hi2
    · rw [new]; exact hto
    · rw [old i hi2]; exact h.to i hi2
  · rw [liveN_snoc, hx]
    simp
    omega

/-! ### A node turned -/
theorem live_set {n : Nat} {x : Item} (hn : n < W.length) {i : Nat} : Live (W.set n x) i ↔ if i = n then x.gone = false else Live W i := by
  unfold Live
  rw [it_set hn]
  split <;> rfl
/-- bytes written -/
theorem child_same {n : Nat} {x : Item} (hn : n < W.length) (h1 : x.gone = (it W n).gone) (h2 : x.par = (it W n).par) (h3 : x.name = (it W n).name) (d : Nat) (s : List UInt8) : child (W.set n x) d s = child W d s := by
  have e : isChild (W.set n x) d s = isChild W d s := by
    funext i
    unfold isChild kid
    rw [it_set hn]
    split
    · next e => subst e; rw [h1, h2, h3]
    · rfl
  unfold child
  rw [e, List.length_set]
theorem Path.same {n : Nat} {x : Item} (hn : n < W.length) (h1 : x.gone = (it W n).gone) (h2 : x.par = (it W n).par) (h3 : x.name = (it W n).name) {i : Nat} {l : List (List UInt8)} (h : Path W i l) : Path (W.set n x) i l := by
  induction h with
  | root => exact .root
  | @step i d l k1 k2 k3 k4 ih =>
    have e : (it (W.set n x) i).name = (it W i).name := by
      rw [it_set hn]
      split
      · next e => subst e; exact h3
      · rfl
    rw [← e]
    refine .step k1 ((live_set hn).2 ?_) ?_ ih
    · split
      · next e => subst e; rw [h1]; exact k2
      · exact k2
    · rw [it_set hn]
      split
      · next e => subst e; rw [h2]; exact k3
      · exact k3
theorem Inv.same (h : Inv W) {n : Nat} {x : Item} (hn : Live W n) (h1 : x.gone = false) (h2 : x.par = (it W n).par) (h3 : x.name = (it W n).name) (h4 : x.kind = (it W n).kind) (h5 : x.data.length ≤ 2048) (h6 : x.to = (it W n).to) : Inv (W.set n x) := by
  have hl := hn.lt
  have h1' : x.gone = (it W n).gone := h1.trans hn.symm
  have li : ∀ i, Live (W.set n x) i ↔ Live W i := fun i => by
    rw [live_set hl]
    split
    · next e => subst e; exact ⟨fun _ => hn, fun _ => h1⟩
    · exact Iff.rfl
  have f1 : ∀ i, (it (W.set n x) i).par = (it W i).par := fun i => by
    rw [it_set hl]; split
    · next e => subst e; exact h2
    · rfl
  have f2 : ∀ i, (it (W.set n x) i).name = (it W i).name := fun i => by
    rw [it_set hl]; split
    · next e => subst e; exact h3
    · rfl
  have f3 : ∀ i, (it (W.set n x) i).kind = (it W i).kind := fun i => by
    rw [it_set hl]; split
    · next e => subst e; exact h4
    · rfl
  refine ⟨by rw [List.length_set]; exact h.pos, ⟨by rw [f3]; exact h.root.1, (li 0).2 h.root.2.1, by rw [f1]; exact h.root.2.2⟩, fun i k1 k2 => ?_, fun i j k1 k2 k3 k4 k5 k6 => ?_, fun i k => ?_, fun i k => ?_, fun i k1 k2 => ?_, fun i k => ?_, fun i k => ?_, ?_⟩
  · obtain ⟨d, e1, e2, e3⟩ := h.par i k1 ((li i).1 k2)
    exact ⟨d, by rw [f1]; exact e1, (li d).2 e2, by rw [f3]; exact e3⟩
  · rw [f1, f1] at k5
    rw [f2, f2] at k6
    exact h.one i j k1 k2 ((li i).1 k3) ((li j).1 k4) k5 k6
  · obtain ⟨l, hl2⟩ := h.path i ((li i).1 k)
    exact ⟨l, hl2.same hl h1' h2 h3⟩
  · rw [f3]; exact h.kind i ((li i).1 k)
  · rw [f2]; exact h.name i k1 ((li i).1 k2)
  · rw [it_set hl]; split
    · exact h5
    · exact h.data i ((li i).1 k)
  · rw [it_set hl]; split
    · rw [h6]; exact h.to n hn
    · exact h.to i ((li i).1 k)
  · have := liveN_set W n x hl
    rw [h1', hn] at this
    have h9 := h.few
    simp at this
    omega
/-- a node gone -/
theorem child_gone (h : Inv W) {n : Nat} (h0 : 0 < n) (hn : Live W n) (x : Item) (hx : x.gone = true) (d : Nat) (s : List UInt8) :
    child (W.set n x) d s = if (it W n).par = d ∧ s = (it W n).name then none else child W d s := by
  have hl := hn.lt
  have key : ∀ i, isChild (W.set n x) d s i = true ↔ i ≠ n ∧ isChild W d s i = true := fun i => by
    rw [isChild_iff, isChild_iff, live_set hl, it_set hl]
    by_cases e : i = n
    · subst e
      simp [hx]
    · simp [e]
  split
  · next c =>
    cases e : child (W.set n x) d s with
    | none => rfl
    | some j =>
      obtain ⟨k1, k2⟩ := (key j).1 (child_some e)
      exact absurd (one_child h k2 (isChild_iff.2 ⟨h0, hn, c.1, c.2.symm⟩)) k1
  · next c =>
    refine child_congr (fun i => ?_) (fun i j hi hj => one_child h ((key i).1 hi).2 ((key j).1 hj).2)
    cases e : isChild W d s i with
    | true =>
      refine (key i).2 ⟨fun e2 => ?_, e⟩
      subst e2
      obtain ⟨_, _, k3, k4⟩ := isChild_iff.1 e
      exact c ⟨k3, k4.symm⟩
    | false =>
      cases e2 : isChild (W.set n x) d s i with
      | false => rfl
      | true => rw [((key i).1 e2).2] at e; cases e
theorem Inv.gone (h : Inv W) {n : Nat} (h0 : 0 < n) (hn : Live W n) (x : Item) (hx : x.gone = true) (hk : ∀ i, kid W n i = false) : Inv (W.set n x) := by
  have hl := hn.lt
  have li : ∀ i, Live (W.set n x) i ↔ i ≠ n ∧ Live W i := fun i => by
    rw [live_set hl]
    by_cases e : i = n
    · subst e; simp [hx]
    · simp [e]
  have old : ∀ i, i ≠ n → it (W.set n x) i = it W i := fun i hi => by rw [it_set hl, if_neg hi]
  have nok : ∀ i, 0 < i → Live W i → (it W i).par ≠ n := fun i k1 k2 k3 => by
    have := hk i
    rw [kid_iff.2 ⟨k1, k2, k3⟩] at this
    cases this
  refine ⟨by rw [List.length_set]; exact h.pos, by rw [old 0 (by omega)]; exact h.root, fun i k1 k2 => ?_, fun i j k1 k2 k3 k4 k5 k6 => ?_, fun i k => ?_, fun i k => ?_, fun i k1 k2 => ?_, fun i k => ?_, fun i k => ?_, ?_⟩
  · obtain ⟨c1, c2⟩ := (li i).1 k2
    obtain ⟨d, e1, e2, e3⟩ := h.par i k1 c2
    have hd : d ≠ n := fun e => nok i k1 c2 (by rw [e1, e])
    rw [old i c1]
    exact ⟨d, e1, (li d).2 ⟨hd, e2⟩, by rw [old d hd]; exact e3⟩
  · obtain ⟨c1, c2⟩ := (li i).1 k3
    obtain ⟨c3, c4⟩ := (li j).1 k4
    rw [old i c1, old j c3] at k5 k6
    exact h.one i j k1 k2 c2 c4 k5 k6
  · obtain ⟨c1, c2⟩ := (li i).1 k
    obtain ⟨l, hp⟩ := h.path i c2
    refine ⟨l, ?_⟩
    clear k c2
    induction hp with
    | root => exact .root
    | @step i d l k1 k2 k3 k4 ih =>
      have hd : d ≠ n := fun e => nok i k1 k2 (by rw [k3, e])
      have e := old i c1
      rw [← e]
      exact .step k1 ((li i).2 ⟨c1, k2⟩) (by rw [e]; exact k3) (ih hd)
  · obtain ⟨c1, c2⟩ := (li i).1 k
    rw [old i c1]; exact h.kind i c2
  · obtain ⟨c1, c2⟩ := (li i).1 k2
    rw [old i c1]; exact h.name i k1 c2
  · obtain ⟨c1, c2⟩ := (li i).1 k
    rw [old i c1]; exact h.data i c2
  · obtain ⟨c1, c2⟩ := (li i).1 k
    rw [old i c1]; exact h.to i c2
  · have := liveN_set W n x hl
    have h9 := h.few
    rw [hx, show (it W n).gone = false from hn] at this
    simp at this
    omega
/-- a node elsewhere -/
theorem child_mv (h : Inv W) {n d : Nat} (h0 : 0 < n) (hn : Live W n) {x : Item} (hx : x.gone = false) (hp : x.par = d) (hno : child W d x.name = none) (d' : Nat) (s : List UInt8) :
    child (W.set n x) d' s = if d' = d ∧ s = x.name then some n else if (it W n).par = d' ∧ s = (it W n).name then none else child W d' s := by
  have hl := hn.lt
  have key : ∀ i, isChild (W.set n x) d' s i = true ↔ (i = n ∧ d' = d ∧ s = x.name) ∨ (i ≠ n ∧ isChild W d' s i = true) := fun i => by
    rw [isChild_iff, isChild_iff, live_set hl, it_set hl]
    by_cases e : i = n
    · subst e
      rw [if_pos rfl, if_pos rfl, hp]
      constructor
      · rintro ⟨_, _, h3, h4⟩
        exact .inl ⟨rfl, (Int.ofNat.inj h3).symm, h4.symm⟩
      · rintro (⟨_, rfl, rfl⟩ | ⟨h2, _⟩)
        · exact ⟨h0, hx, rfl, rfl⟩
        · exact absurd rfl h2
    · rw [if_neg e, if_neg e]
      simp [e]
  split
  · next c =>
    obtain ⟨rfl, rfl⟩ := c
    cases e : child (W.set n x) d' x.name with
    | none =>
      have := child_none e n
      rw [(key n).2 (.inl ⟨rfl, rfl, rfl⟩)] at this
      cases this
    | some j =>
      rcases (key j).1 (child_some e) with ⟨rfl, _⟩ | ⟨_, h2⟩
      · rfl
      · rw [child_none hno j] at h2
        cases h2
  · next c =>
    split
    · next c2 =>
      cases e : child (W.set n x) d' s with
      | none => rfl
      | some j =>
        rcases (key j).1 (child_some e) with ⟨_, h2, h3⟩ | ⟨h1, h2⟩
        · exact absurd ⟨h2, h3⟩ c
        · exact absurd (one_child h h2 (isChild_iff.2 ⟨h0, hn, c2.1, c2.2.symm⟩)) h1
    · next c2 =>
      refine child_congr (fun i => ?_) (fun i j hi hj => ?_)
      · cases e : isChild W d' s i with
        | true =>
          refine (key i).2 (.inr ⟨fun e2 => ?_, e⟩)
          subst e2
          obtain ⟨_, _, k3, k4⟩ := isChild_iff.1 e
          exact c2 ⟨k3, k4.symm⟩
        | false =>
          cases e2 : isChild (W.set n x) d' s i with
          | false => rfl
          | true =>
            rcases (key i).1 e2 with ⟨_, h2, h3⟩ | ⟨_, h2⟩
            · exact absurd ⟨h2, h3⟩ c
            · rw [e] at h2; cases h2
      · rcases (key i).1 hi with ⟨_, h2, h3⟩ | ⟨_, h2⟩
        · exact absurd ⟨h2, h3⟩ c
        · rcases (key j).1 hj with ⟨_, h4, h5⟩ | ⟨_, h4⟩
          · exact absurd ⟨h4, h5⟩ c
          · exact one_child h h2 h4
theorem Inv.mv (h : Inv W) {n d : Nat} (h0 : 0 < n) (hn : Live W n) {x : Item} (hx : x.gone = false) (hp : x.par = d) (hd : Live W d) (hdk : (it W d).kind = 1) (hno : child W d x.name = none) (hon : ¬ On W n d) (hk : x.kind = (it W n).kind) (hnm : x.name.length ≤ 16) (hda : x.data = (it W n).data) (hto : x.to = (it W n).to) : Inv (W.set n x) := by
  have hl := hn.lt
  have li : ∀ i, Live (W.set n x) i ↔ Live W i := fun i => by
    rw [live_set hl]
    split
    · next e => subst e; exact ⟨fun _ => hn, fun _ => hx⟩
    · exact Iff.rfl
  have old : ∀ i, i ≠ n → it (W.set n x) i = it W i := fun i hi => by rw [it_set hl, if_neg hi]
  have new : it (W.set n x) n = x := by rw [it_set hl, if_pos rfl]
  have hk2 : ∀ i, (it (W.set n x) i).kind = (it W i).kind := fun i => by
    rw [it_set hl]; split
    · next e => subst e; exact hk
    · rfl
  have sib : ∀ j, 0 < j → Live W j → (it W j).par = x.par → (it W j).name ≠ x.name := fun j h1 h2 h3 h4 => by
    have := child_none hno j
    rw [isChild_iff.2 ⟨h1, h2, h3.trans hp, h4⟩] at this
    cases this
  -- ways that do not pass n
  have way : ∀ {i l}, Path W i l → ¬ On W n i → Path (W.set n x) i l := fun {i l} hpth => by
    induction hpth with
    | root => exact fun _ => .root
    | @step i d l k1 k2 k3 k4 ih =>
      intro hno
      have e := old i (fun e => hno (e ▸ .here))
      rw [← e]
      exact .step k1 ((li i).2 k2) (by rw [e]; exact k3) (ih fun ho => hno (.up k1 k2 k3 ho))
  obtain ⟨ld, hld⟩ := h.path d hd
  have wayn : Path (W.set n x) n (ld ++ [(it (W.set n x) n).name]) := .step h0 ((li n).2 hn) (by rw [new]; exact hp) (way hld hon)
  have way2 : ∀ {i l}, Path W i l → ∃ m, Path (W.set n x) i m := fun {i l} hpth => by
    induction hpth with
    | root => exact ⟨[], .root⟩
    | @step i d l k1 k2 k3 k4 ih =>
      by_cases e : i = n
      · subst e; exact ⟨_, wayn⟩
      · obtain ⟨m, hm⟩ := ih
        exact ⟨_, .step k1 ((li i).2 k2) (by rw [old i e]; exact k3) hm⟩
  refine ⟨by rw [List.length_set]; exact h.pos, by rw [old 0 (by omega)]; exact h.root, fun i k1 k2 => ?_, fun i j k1 k2 k3 k4 k5 k6 => ?_, fun i k => ?_, fun i k => ?_, fun i k1 k2 => ?_, fun i k => ?_, fun i k => ?_, ?_⟩
  · by_cases e : i = n
    · subst e; rw [new]; exact ⟨d, hp, (li d).2 hd, by rw [hk2]; exact hdk⟩
    · obtain ⟨d', e1, e2, e3⟩ := h.par i k1 ((li i).1 k2)
      rw [old i e]
      exact ⟨d', e1, (li d').2 e2, by rw [hk2]; exact e3⟩
  · by_cases e1 : i = n
    · by_cases e2 : j = n
      · omega
      · subst e1
        rw [new, old j e2] at k5 k6
        exact absurd k6.symm (sib j k2 ((li j).1 k4) k5.symm)
    · by_cases e2 : j = n
      · subst e2
        rw [new, old i e1] at k5 k6
        exact absurd k6 (sib i k1 ((li i).1 k3) k5)
      · rw [old i e1, old j e2] at k5 k6
        exact h.one i j k1 k2 ((li i).1 k3) ((li j).1 k4) k5 k6
  · obtain ⟨l, hp2⟩ := h.path i ((li i).1 k)
    exact way2 hp2
  · rw [hk2]; exact h.kind i ((li i).1 k)
  · by_cases e : i = n
    · subst e; rw [new]; exact hnm
    · rw [old i e]; exact h.name i k1 ((li i).1 k2)
  · by_cases e : i = n
    · subst e; rw [new, hda]; exact h.data i hn
    · rw [old i e]; exact h.data i ((li i).1 k)
  · by_cases e : i = n
    · subst e; rw [new, hto]; exact h.to i hn
    · rw [old i e]; exact h.to i ((li i).1 k)
  · have := liveN_set W n x hl
    have h9 := h.few
    rw [hx, show (it W n).gone = false from hn] at this
    simp at this
    omega
end
end Go.Proofs.YtlcjdlnhniemcaaDoor.tr
end
