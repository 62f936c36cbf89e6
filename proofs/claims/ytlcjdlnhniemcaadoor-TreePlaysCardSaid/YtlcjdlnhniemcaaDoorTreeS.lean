/- The plain law of package tree: finding; what an act comes to. No program in sight. No condition. -/
import Derived.Test.YtlcjdlnhniemcaaDoorMgB
import Derived.Test.YtlcjdlnhniemcaaDoorPath3
namespace Go.Proofs.YtlcjdlnhniemcaaDoor.tr
section
variable {W : List Item}
theorem look_nil (f : Bool) (d : Nat) (pre : List (List UInt8)) : look W f d pre [] = .done d := rfl
theorem look_cons (f : Bool) (d : Nat) (pre : List (List UInt8)) (nm : List UInt8) (rest : List (List UInt8)) : look W f d pre (nm :: rest) = if (it W d).kind = 1 then (match child W d nm with
    | none => .err 7
    | some n => if (it W n).kind = 3 ∧ (f = true ∨ rest ≠ []) then .on pre n rest else look W f n (pre ++ [nm]) rest) else .err 15 := rfl
theorem look_file {f : Bool} {d : Nat} {pre : List (List UInt8)} {nm : List UInt8} {rest : List (List UInt8)} (h : (it W d).kind ≠ 1) : look W f d pre (nm :: rest) = .err 15 := by rw [look_cons, if_neg h]
theorem look_none {f : Bool} {d : Nat} {pre : List (List UInt8)} {nm : List UInt8} {rest : List (List UInt8)} (h : (it W d).kind = 1) (hc : child W d nm = none) : look W f d pre (nm :: rest) = .err 7 := by rw [look_cons, if_pos h, hc]
theorem look_on {f : Bool} {d n : Nat} {pre : List (List UInt8)} {nm : List UInt8} {rest : List (List UInt8)} (h : (it W d).kind = 1) (hc : child W d nm = some n) (hk : (it W n).kind = 3 ∧ (f = true ∨ rest ≠ [])) : look W f d pre (nm :: rest) = .on pre n rest := by
  rw [look_cons, if_pos h, hc]
  exact if_pos hk
theorem look_go {f : Bool} {d n : Nat} {pre : List (List UInt8)} {nm : List UInt8} {rest : List (List UInt8)} (h : (it W d).kind = 1) (hc : child W d nm = some n) (hk : ¬ ((it W n).kind = 3 ∧ (f = true ∨ rest ≠ []))) : look W f d pre (nm :: rest) = look W f n (pre ++ [nm]) rest := by
  rw [look_cons, if_pos h, hc]
  exact if_neg hk
/-- what is found is there; a link that leads on stands in the directory of the names so far -/
theorem look_done {f : Bool} : ∀ {L : List (List UInt8)} {d n : Nat} {pre : List (List UInt8)}, Live W d → (f = true → (it W d).kind ≠ 3) → look W f d pre L = .done n → Live W n ∧ (f = true → (it W n).kind ≠ 3)
  | [], d, n, pre, hl, hk, h => by cases h; exact ⟨hl, hk⟩
  | nm :: rest, d, n, pre, hl, hk, h => by
    by_cases h1 : (it W d).kind = 1
    · cases hc : child W d nm with
      | none => rw [look_none h1 hc] at h; cases h
      | some m =>
        by_cases h2 : (it W m).kind = 3 ∧ (f = true ∨ rest ≠ [])
        · rw [look_on h1 hc h2] at h; cases h
        · rw [look_go h1 hc h2] at h
          exact look_done (child_live hc).2.1 (fun hf e => h2 ⟨e, .inl hf⟩) h
    · rw [look_file h1] at h; cases h
theorem look_link {f : Bool} : ∀ {L : List (List UInt8)} {d n : Nat} {pre pre' rest : List (List UInt8)}, Path W d pre → look W f d pre L = .on pre' n rest → Live W n ∧ (it W n).kind = 3 ∧ 0 < n ∧ (f = true ∨ rest ≠ []) ∧ ∃ d' : Nat, (it W n).par = d' ∧ Path W d' pre' ∧ rest.length < L.length
  | [], d, n, pre, pre', rest, hp, h => by cases h
  | nm :: t, d, n, pre, pre', rest, hp, h => by
    by_cases h1 : (it W d).kind = 1
    · cases hc : child W d nm with
      | none => rw [look_none h1 hc] at h; cases h
      | some m =>
        obtain ⟨c1, c2, c3, c4⟩ := child_live hc
        by_cases h2 : (it W m).kind = 3 ∧ (f = true ∨ t ≠ [])
        · rw [look_on h1 hc h2] at h
          cases h
          exact ⟨c2, h2.1, c1, h2.2, d, c3, hp, by simp⟩
        · rw [look_go h1 hc h2] at h
          obtain ⟨k1, k2, k3, k4, d', k5, k6, k7⟩ := look_link (by rw [← c4]; exact .step c1 c2 c3 hp) h
          exact ⟨k1, k2, k3, k4, d', k5, k6, by rw [List.length_cons]; omega⟩
    · rw [look_file h1] at h; cases h
theorem find_done {f : Bool} {j : Nat} {L : List (List UInt8)} {n : Nat} (h : look W f 0 [] L = .done n) : find W f j L = .ok n := by cases j <;> rw [find, h]
theorem find_err {f : Bool} {j : Nat} {L : List (List UInt8)} {e : Int} (h : look W f 0 [] L = .err e) : find W f j L = .error e := by cases j <;> rw [find, h]
theorem find_loop {f : Bool} {L pre rest : List (List UInt8)} {n : Nat} (h : look W f 0 [] L = .on pre n rest) : find W f 0 L = .error 13 := by rw [find, h]
theorem find_no {f : Bool} {j : Nat} {L pre rest : List (List UInt8)} {n : Nat} {e : Int} (h : look W f 0 [] L = .on pre n rest) (h2 : pa.follow pre (it W n).to = .error e) : find W f (j + 1) L = .error e := by rw [find, h]; simp only [h2]
theorem find_full {f : Bool} {j : Nat} {L pre rest o : List (List UInt8)} {n : Nat} (h : look W f 0 [] L = .on pre n rest) (h2 : pa.follow pre (it W n).to = .ok o) (h3 : 12 < (o ++ rest).length) : find W f (j + 1) L = .error 9 := by rw [find, h]; simp only [h2]; exact if_pos h3
theorem find_on {f : Bool} {j : Nat} {L pre rest o : List (List UInt8)} {n : Nat} (h : look W f 0 [] L = .on pre n rest) (h2 : pa.follow pre (it W n).to = .ok o) (h3 : ¬ 12 < (o ++ rest).length) : find W f (j + 1) L = find W f j (o ++ rest) := by
  conv => lhs; rw [find, h]
  simp only [h2]
  exact if_neg h3
theorem find_live (hI : Inv W) {f : Bool} : ∀ {j : Nat} {L : List (List UInt8)} {n : Nat}, find W f j L = .ok n → Live W n ∧ (f = true → (it W n).kind ≠ 3) := by
  intro j
  induction j with
  | zero =>
    intro L n h
    cases hl : look W f 0 [] L with
    | done m => rw [find_done hl] at h; cases h; exact look_done hI.root.2.1 (fun _ e => by rw [hI.root.1] at e; cases e) hl
    | err e => rw [find_err hl] at h; cases h
    | on pre m rest => rw [find_loop hl] at h; cases h
  | succ j ih =>
    intro L n h
    cases hl : look W f 0 [] L with
    | done m => rw [find_done hl] at h; cases h; exact look_done hI.root.2.1 (fun _ e => by rw [hI.root.1] at e; cases e) hl
    | err e => rw [find_err hl] at h; cases h
    | on pre m rest =>
      cases h2 : pa.follow pre (it W m).to with
      | error e => rw [find_no hl h2] at h; cases h
      | ok o =>
        by_cases h3 : 12 < (o ++ rest).length
        · rw [find_full hl h2 h3] at h; cases h
        · rw [find_on hl h2 h3] at h; exact ih h
/-! ### The directory of what was found -/
theorem look_place : ∀ {L : List (List UInt8)} {d : Nat} {pre : List (List UInt8)}, L ≠ [] →
    (∀ n, look W false d pre L = .done n → ∃ d', look W true d pre L.dropLast = .done d' ∧ (it W d').kind = 1 ∧ child W d' (L.getLast?.getD []) = some n) ∧
    (∀ pre' n rest, look W false d pre L = .on pre' n rest → rest ≠ [] ∧ look W true d pre L.dropLast = .on pre' n rest.dropLast ∧ rest.getLast?.getD [] = L.getLast?.getD [])
  | [], _, _, h => absurd rfl h
  | [nm], d, pre, _ => by
    refine ⟨fun n h => ?_, fun pre' n rest h => ?_⟩
    · by_cases h1 : (it W d).kind = 1
      · cases hc : child W d nm with
        | none => rw [look_none h1 hc] at h; cases h
        | some m =>
          rw [look_go h1 hc (by simp)] at h
          cases h
          exact ⟨d, rfl, h1, hc⟩
      · rw [look_file h1] at h; cases h
    · by_cases h1 : (it W d).kind = 1
      · cases hc : child W d nm with
        | none => rw [look_none h1 hc] at h; cases h
        | some m =>
          rw [look_go h1 hc (by simp)] at h
          cases h
      · rw [look_file h1] at h; cases h
  | nm :: n2 :: t, d, pre, _ => by
    have e1 : (nm :: n2 :: t).dropLast = nm :: (n2 :: t).dropLast := rfl
    have e2 : (nm :: n2 :: t).getLast?.getD [] = (n2 :: t).getLast?.getD [] := by simp [List.getLast?_cons_cons]
    rw [e1, e2]
    by_cases h1 : (it W d).kind = 1
    · cases hc : child W d nm with
      | none => exact ⟨fun n h => (by rw [look_none h1 hc] at h; cases h), fun pre' n rest h => (by rw [look_none h1 hc] at h; cases h)⟩
      | some m =>
        by_cases h2 : (it W m).kind = 3
        · refine ⟨fun n h => ?_, fun pre' n rest h => ?_⟩
          · rw [look_on h1 hc ⟨h2, .inr (by simp)⟩] at h; cases h
          · rw [look_on h1 hc ⟨h2, .inr (by simp)⟩] at h
            cases h
            exact ⟨by simp, look_on h1 hc ⟨h2, .inl rfl⟩, rfl⟩
        · obtain ⟨i1, i2⟩ := look_place (L := n2 :: t) (d := m) (pre := pre ++ [nm]) (by simp)
          rw [look_go h1 hc (fun h => h2 h.1), look_go h1 hc (fun h => h2 h.1)]
          exact ⟨i1, i2⟩
    · exact ⟨fun n h => (by rw [look_file h1] at h; cases h), fun pre' n rest h => (by rw [look_file h1] at h; cases h)⟩
theorem find_place : ∀ {j : Nat} {L : List (List UInt8)} {n : Nat}, L ≠ [] → find W false j L = .ok n → ∃ d, find W true j L.dropLast = .ok d ∧ (it W d).kind = 1 ∧ child W d (L.getLast?.getD []) = some n := by
  intro j
  induction j with
  | zero =>
    intro L n hL h
    obtain ⟨p1, p2⟩ := look_place (W := W) (d := 0) (pre := []) hL
    cases hl : look W false 0 [] L with
    | done m =>
      rw [find_done hl] at h; cases h
      obtain ⟨d', k1, k2, k3⟩ := p1 _ hl
      exact ⟨d', find_done k1, k2, k3⟩
    | err e => rw [find_err hl] at h; cases h
    | on pre m rest => rw [find_loop hl] at h; cases h
  | succ j ih =>
    intro L n hL h
    obtain ⟨p1, p2⟩ := look_place (W := W) (d := 0) (pre := []) hL
    cases hl : look W false 0 [] L with
    | done m =>
      rw [find_done hl] at h; cases h
      obtain ⟨d', k1, k2, k3⟩ := p1 _ hl
      exact ⟨d', find_done k1, k2, k3⟩
    | err e => rw [find_err hl] at h; cases h
    | on pre m rest =>
      obtain ⟨q1, q2, q3⟩ := p2 _ _ _ hl
      cases h2 : pa.follow pre (it W m).to with
      | error e => rw [find_no hl h2] at h; cases h
      | ok o =>
        by_cases h3 : 12 < (o ++ rest).length
        · rw [find_full hl h2 h3] at h; cases h
        · rw [find_on hl h2 h3] at h
          have hne : o ++ rest ≠ [] := by simp [q1]
          obtain ⟨d, k1, k2, k3⟩ := ih hne h
          have e1 : (o ++ rest).dropLast = o ++ rest.dropLast := List.dropLast_append_of_ne_nil q1
          have e2 : (o ++ rest).getLast?.getD [] = rest.getLast?.getD [] := by
            rw [List.getLast?_append]
            cases hr : rest.getLast? with
            | none => exact absurd (List.getLast?_eq_none_iff.1 hr) q1
            | some x => rfl
          rw [e1] at k1
          rw [e2, q3] at k3
          refine ⟨d, ?_, k2, k3⟩
          rw [find_on q2 h2 (by rw [List.length_append] at h3 ⊢; rw [List.length_dropLast]; omega)]
          exact k1
end

/-! ### Acts -/
def remove (W : List Item) (names : List (List UInt8)) : List Item × Int :=
  if names = [] then (W, 14) else match find W false 8 names with
    | .error e => (W, e)
    | .ok n => if kids W n ≠ [] then (W, 16) else (W.set n (it W n).off, 0)
open Classical in
noncomputable def rename (W : List Item) (names : List (List UInt8)) (to : List UInt8) : List Item × Int :=
  if names = [] then (W, 14) else match find W false 8 names with
    | .error e => (W, e)
    | .ok n => match pa.walk [] to with
      | .error e => (W, e)
      | .ok others => match spot W others with
        | .error e => (W, e)
        | .ok (d, last) => if On W n d then (W, 4) else (W.set n ((it W n).mv d last), 0)
def sorted (l : List (List UInt8)) : List (List UInt8) := l.mergeSort (fun x y => decide (x ≤ y))
def namesIn (W : List Item) (d : Nat) : List (List UInt8) := (kids W d).map fun i => (it W i).name
/-- at a node -/
def atN (W : List Item) (n : Nat) (a : Act_) : List Item × Seen :=
  if a.kind = 7 then (W, if (it W n).kind = 1 then ⟨0, 0, 0, [], (sorted (namesIn W n)).map strOf⟩ else seen 15)
  else if a.kind = 6 then (W, if (it W n).kind = 1 then ⟨0, 1, ((kids W n).length : Int), [], []⟩ else ⟨0, 2, ((it W n).data.length : Int), [], []⟩)
  else if (it W n).kind = 1 then (W, seen 14)
  else (W.set n ((it W n).wd (fdo (it W n).data a).1), (fdo (it W n).data a).2)
noncomputable def act (W : List Item) (a : Act_) : List Item × Seen :=
  if a.kind < 1 ∨ 10 < a.kind then (W, seen 3)
  else if a.kind = 10 ∧ (a.to.size = 0 ∨ 200 < a.to.size) then (W, seen 1)
  else match pa.walk [] a.path.data.toList with
  | .error e => (W, seen e)
  | .ok names =>
    if a.kind = 1 then ((add W names ⟨1, 0, [], [], [], false⟩).1, seen (add W names ⟨1, 0, [], [], [], false⟩).2)
    else if a.kind = 2 then ((add W names ⟨2, 0, [], [], [], false⟩).1, seen (add W names ⟨2, 0, [], [], [], false⟩).2)
    else if a.kind = 10 then ((add W names ⟨3, 0, [], [], a.to.data.toList, false⟩).1, seen (add W names ⟨3, 0, [], [], a.to.data.toList, false⟩).2)
    else if a.kind = 8 then ((remove W names).1, seen (remove W names).2)
    else if a.kind = 9 then ((rename W names a.to.data.toList).1, seen (rename W names a.to.data.toList).2)
    else match find W true 8 names with
      | .error e => (W, seen e)
      | .ok n => atN W n a
end Go.Proofs.YtlcjdlnhniemcaaDoor.tr
