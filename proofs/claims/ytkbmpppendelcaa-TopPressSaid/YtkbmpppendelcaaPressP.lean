/- The plain law of TopPress: the least cost of at most 64 counts is at most six times their sum. No condition. -/
import Derived.Test.YtkbmpppendelcaaHeapR
namespace Go.Proofs.Ytkbmpppendelcaa.hl

theorem sub_le {s : List Int} (hs : s.Pairwise (· ≤ ·)) : ∀ {u : List Int}, u.Sublist s → ∀ j, j < u.length → u.getD j 0 ≤ s.getD (j + (s.length - u.length)) 0 := by
  induction s with
  | nil => intro u h j hj; rw [List.sublist_nil.1 h] at hj; simp at hj
  | cons x s ih =>
    intro u h j hj
    obtain ⟨h1, h2⟩ := List.pairwise_cons.1 hs
    cases h with
    | cons _ h =>
      have hl := h.length_le
      have := ih h2 h j hj
      have e : j + ((x :: s).length - u.length) = (j + (s.length - u.length)) + 1 := by rw [List.length_cons]; omega
      rw [e]
      exact this
    | cons_cons _ h =>
      next u' =>
      have hl := h.length_le
      have e : (x :: s).length - (x :: u').length = s.length - u'.length := by rw [List.length_cons, List.length_cons]; omega
      rw [e]
      cases j with
      | zero =>
        by_cases c : s.length - u'.length = 0
        · rw [c]
          exact Int.le_refl _
        · obtain ⟨m, hm⟩ : ∃ m, s.length - u'.length = m + 1 := ⟨s.length - u'.length - 1, by omega⟩
          rw [hm, Nat.zero_add]
          show x ≤ s.getD m 0
          have hms : m < s.length := by omega
          rw [List.getD_eq_getElem?_getD, List.getElem?_eq_getElem hms]
          exact h1 _ (List.getElem_mem hms)
      | succ j =>
        have := ih h2 h j (by simpa using hj)
        have e2 : j + 1 + (s.length - u'.length) = (j + (s.length - u'.length)) + 1 := by omega
        rw [e2]
        exact this
theorem sum_nonneg : ∀ {m : List Int}, (∀ z ∈ m, 0 ≤ z) → 0 ≤ m.sum
  | [], _ => Int.le_refl _
  | z :: m, h => by
    rw [List.sum_cons]
    have h1 := h z (by simp)
    have h2 := sum_nonneg (m := m) fun q hq => h q (by simp [hq])
    omega
theorem take_sum_le {s : List Int} (h : ∀ z ∈ s, 0 ≤ z) (n : Nat) : (s.take n).sum ≤ s.sum := by
  have e : s.sum = (s.take n).sum + (s.drop n).sum := by
    conv => lhs; rw [← List.take_append_drop n s]
    rw [List.sum_append]
  have := sum_nonneg (m := s.drop n) fun z hz => h z (List.mem_of_mem_drop hz)
  omega
theorem take_two_sum (s : List Int) (n : Nat) (h : n + 1 < s.length) : (s.take (n + 2)).sum = (s.take n).sum + s.getD n 0 + s.getD (n + 1) 0 := by
  have e1 : s.take (n + 2) = s.take n ++ [s.getD n 0] ++ [s.getD (n + 1) 0] := by
    rw [List.take_add_one, List.getElem?_eq_getElem h, List.take_add_one, List.getElem?_eq_getElem (by omega), List.getD_eq_getElem?_getD, List.getElem?_eq_getElem (by omega : n < s.length), List.getD_eq_getElem?_getD, List.getElem?_eq_getElem h]
    rfl
  rw [e1, List.sum_append, List.sum_append]
  simp
/-- behind n merges: what was merged cost no more than the 2n least -/
theorem merges {l s : List Int} (hs : s.Pairwise (· ≤ ·)) (hp : l.Perm s) (h0 : ∀ x ∈ s, 0 ≤ x) : ∀ n, 2 * n ≤ s.length → ∃ cur U M, cur.length = s.length - n ∧ cur.sum = s.sum ∧ (∀ x ∈ cur, 0 ≤ x) ∧ hc l ≤ (s.take (2 * n)).sum + hc cur ∧ cur.Perm (U ++ M) ∧ U.Sublist s ∧ s.length - 2 * n ≤ U.length
  | 0, _ => ⟨s, s, [], by simp, rfl, h0, by rw [hc_congr hp]; simp, by simp, List.Sublist.refl _, by simp⟩
  | n + 1, hn => by
    obtain ⟨cur, U, M, c1, c2, c3, c4, c5, c6, c7⟩ := merges hs hp h0 n (by omega)
    obtain ⟨a, b, r, e, hhc, hlen, hsum, hpos⟩ := round (xs := cur) (by omega)
    have hpos' := (hpos c3).1
    have hsp := sort_perm cur
    have hss := sort_sorted cur
    rw [e] at hsp hss
    have hss1 := List.pairwise_cons.1 hss
    have hss2 := List.pairwise_cons.1 hss1.2
    -- the two least are no more than two of those that were not merged
    have hU2 : 2 ≤ U.length := by omega
    obtain ⟨u0, u1, U2, rfl⟩ : ∃ u0 u1 U2, U = u0 :: u1 :: U2 := by
      match U, hU2 with
      | u0 :: u1 :: U2, _ => exact ⟨u0, u1, U2, rfl⟩
    have hab : a + b ≤ u0 + u1 := by
      have hq : (a :: b :: r).Perm (u0 :: u1 :: (U2 ++ M)) := hsp.trans c5
      have k0 : u0 ∈ a :: b :: r := hq.symm.subset (by simp)
      have ha0 : a ≤ u0 := by
        rcases List.mem_cons.1 k0 with e0 | e0
        · omega
        · exact hss1.1 u0 e0
      have k1 : u1 ∈ a :: b :: r := hq.symm.subset (by simp)
      have ha1 : a ≤ u1 := by
        rcases List.mem_cons.1 k1 with e0 | e0
        · omega
        · exact hss1.1 u1 e0
      -- b is at most the greater of the two
      have hb : b ≤ u0 ∨ b ≤ u1 := by
        by_cases d : u0 = a
        · have hq2 : (b :: r).Perm (u1 :: (U2 ++ M)) := by
            rw [d] at hq
            exact hq.cons_inv
          have k : u1 ∈ b :: r := hq2.symm.subset (by simp)
          rcases List.mem_cons.1 k with e0 | e0
          · right; omega
          · right; exact hss2.1 u1 e0
        · rcases List.mem_cons.1 k0 with e0 | e0
          · exact absurd e0 d
          · rcases List.mem_cons.1 e0 with e1 | e1
            · left; omega
            · left; exact hss2.1 u0 e1
      rcases hb with hb | hb
      · -- b ≤ u0, a ≤ u1
        omega
      · omega
    have hu0 := sub_le hs c6 0 (by simp)
    have hu1 := sub_le hs c6 1 (by simp)
    have hmono : ∀ i j, i ≤ j → j < s.length → s.getD i 0 ≤ s.getD j 0 := fun i j hij hj => by
      rcases Nat.lt_or_ge i j with h | h
      · have := List.pairwise_iff_getElem.1 hs i j (by omega) hj h
        rw [List.getD_eq_getElem?_getD, List.getElem?_eq_getElem (by omega), List.getD_eq_getElem?_getD, List.getElem?_eq_getElem hj]
        exact this
      · rw [show i = j by omega]
        exact Int.le_refl _
    have hUl := c6.length_le
    simp only [List.getD_cons_zero, List.length_cons, Nat.zero_add] at hu0 hu1 c7 hUl
    have hu1' : u1 ≤ s.getD (1 + (s.length - (U2.length + 1 + 1))) 0 := hu1
    have m0 := hmono (s.length - (U2.length + 1 + 1)) (2 * n) (by omega) (by omega)
    have m1 := hmono (1 + (s.length - (U2.length + 1 + 1))) (2 * n + 1) (by omega) (by omega)
    have htk := take_two_sum s (2 * n) (by omega)
    -- what is left
    have hr : r.Perm (((u0 :: u1 :: U2) ++ M).erase a |>.erase b) := by
      have h1 : (a :: b :: r).Perm ((u0 :: u1 :: U2) ++ M) := hsp.trans c5
      have h2 := (h1.erase a).erase b
      rw [List.erase_cons_head, List.erase_cons_head] at h2
      exact h2
    obtain ⟨V, W, hV, hVs, hVl⟩ : ∃ V W, (((u0 :: u1 :: U2) ++ M).erase a |>.erase b).Perm (V ++ W) ∧ V.Sublist (u0 :: u1 :: U2) ∧ (u0 :: u1 :: U2).length ≤ V.length + 2 := by
      have one : ∀ (A B : List Int) (x : Int), ∃ A' B', (A ++ B).erase x = A' ++ B' ∧ A'.Sublist A ∧ A.length ≤ A'.length + 1 := fun A B x => by
        rw [List.erase_append]
        split
        · next hx => exact ⟨A.erase x, B, rfl, List.erase_sublist, by rw [List.length_erase_of_mem hx]; omega⟩
        · exact ⟨A, B.erase x, rfl, List.Sublist.refl _, by omega⟩
      obtain ⟨A1, B1, e1, s1, l1⟩ := one (u0 :: u1 :: U2) M a
      obtain ⟨A2, B2, e2, s2, l2⟩ := one A1 B1 b
      exact ⟨A2, B2, by rw [e1, e2], s2.trans s1, by omega⟩
    refine ⟨(a + b) :: r, V, (a + b) :: W, by omega, by omega, hpos', ?_, ?_, hVs.trans c6, ?_⟩
    · rw [show 2 * (n + 1) = 2 * n + 2 by omega, htk]
      omega
    · exact ((hr.trans hV).cons (a + b)).trans List.perm_middle.symm
    · simp only [List.length_cons] at hVl
      omega
/-- at most so many times the sum -/
theorem hc_log : ∀ (m : Nat) (l : List Int), l.length ≤ 2 ^ m → (∀ x ∈ l, 0 ≤ x) → hc l ≤ m * l.sum
  | 0, l, h, _ => by
    rw [hc_few (by simpa using h)]
    simp
  | m + 1, l, h, h0 => by
    have hp := sort_perm l
    have h0s : ∀ x ∈ sort l, 0 ≤ x := fun x hx => h0 x (hp.subset hx)
    have hle := hp.length_eq
    obtain ⟨cur, U, M, c1, c2, c3, c4, _⟩ := merges (sort_sorted l) hp.symm h0s (l.length / 2) (by omega)
    have hcl : cur.length ≤ 2 ^ m := by
      have : 2 ^ (m + 1) = 2 * 2 ^ m := by rw [Nat.pow_succ]; omega
      omega
    have ih := hc_log m cur hcl c3
    have hsm := perm_sum hp
    have ht := take_sum_le h0s (2 * (l.length / 2))
    rw [c2, hsm] at ih
    rw [hsm] at ht
    have e2 : ((m + 1 : Nat) : Int) * l.sum = (m : Int) * l.sum + l.sum := by rw [Int.natCast_add, Int.add_mul]; simp
    rw [e2]
    omega
end Go.Proofs.Ytkbmpppendelcaa.hl
