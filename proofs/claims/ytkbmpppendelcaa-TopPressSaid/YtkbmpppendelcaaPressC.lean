/- The plain law of TopPress: how often symbols come, and how many bits they take. No program in sight. No condition. -/
import Derived.Test.YtkbmpppendelcaaPressP
import Derived.Test.YtkbmpppendelcaaPrA
import Derived.Test.YtkbmpppendelcaaHeapS
namespace Go.Proofs.Ytkbmpppendelcaa

theorem hl.snoc_ind {α : Type} {P : List α → Prop} (h0 : P []) (h1 : ∀ S s, P S → P (S ++ [s])) (S : List α) : P S := by
  have : ∀ T : List α, P T.reverse := fun T => by
    induction T with
    | nil => exact h0
    | cons x T ih => rw [List.reverse_cons]; exact h1 _ _ ih
  have h := this S.reverse
  rwa [List.reverse_reverse] at h
/-- how often each symbol comes -/
def hl.cnts (S : List Int) : List Int := S.foldl (fun c s => c.set s.toNat (c.getD s.toNat 0 + 1)) (List.replicate 64 0)
theorem hl.cnts_snoc (S : List Int) (s : Int) : hl.cnts (S ++ [s]) = (hl.cnts S).set s.toNat ((hl.cnts S).getD s.toNat 0 + 1) := by unfold hl.cnts; rw [List.foldl_append]; rfl
theorem hl.cnts_len : ∀ S, (hl.cnts S).length = 64 := hl.snoc_ind (by unfold hl.cnts; simp) fun S s h => by rw [hl.cnts_snoc, List.length_set, h]
def hl.Sy (S : List Int) : Prop := ∀ s ∈ S, 0 ≤ s ∧ s < 64
theorem hl.Sy.front {S : List Int} {s : Int} (h : hl.Sy (S ++ [s])) : hl.Sy S ∧ 0 ≤ s ∧ s < 64 := ⟨fun x hx => h x (by simp [hx]), h s (by simp)⟩
theorem hl.cnts_bd : ∀ S, hl.Sy S → ∀ i, 0 ≤ (hl.cnts S).getD i 0 ∧ (hl.cnts S).getD i 0 ≤ S.length := hl.snoc_ind (fun _ i => by
    have e : hl.cnts [] = List.replicate 64 0 := rfl
    rw [e, hl.getD_rep]
    simp) fun S s ih h i => by
  obtain ⟨h1, h2, h3⟩ := h.front
  have a := ih h1 i
  have b := ih h1 s.toNat
  rw [hl.cnts_snoc, hl.getD_set0 (by rw [hl.cnts_len]; omega), List.length_append]
  simp only [List.length_cons, List.length_nil]
  split
  · omega
  · omega
theorem hl.cnts_pos : ∀ S, hl.Sy S → ∀ x ∈ S, 0 < (hl.cnts S).getD x.toNat 0 := hl.snoc_ind (fun _ x hx => by cases hx) fun S s ih h x hx => by
  obtain ⟨h1, h2, h3⟩ := h.front
  rw [hl.cnts_snoc, hl.getD_set0 (by rw [hl.cnts_len]; omega)]
  have b := hl.cnts_bd S h1 s.toNat
  split
  · omega
  · next hne =>
    rcases List.mem_append.1 hx with hx | hx
    · exact ih h1 x hx
    · simp only [List.mem_singleton] at hx
      rw [hx] at hne
      exact absurd rfl hne
theorem hl.sum_set : ∀ (l : List Int) (i : Nat) (v : Int), i < l.length → (l.set i v).sum = l.sum + (v - l.getD i 0)
  | [], _, _, h => by simp at h
  | x :: l, 0, v, _ => by
    rw [List.set_cons_zero, List.sum_cons, List.sum_cons, List.getD_cons_zero]
    omega
  | x :: l, i + 1, v, h => by
    have := hl.sum_set l i v (by simpa using h)
    rw [List.set_cons_succ, List.sum_cons, List.sum_cons, List.getD_cons_succ]
    omega
theorem hl.cnts_sum : ∀ S, hl.Sy S → (hl.cnts S).sum = S.length := hl.snoc_ind (fun _ => by decide) fun S s ih h => by
  obtain ⟨h1, h2, h3⟩ := h.front
  rw [hl.cnts_snoc, hl.sum_set _ _ _ (by rw [hl.cnts_len]; omega), ih h1, List.length_append]
  simp only [List.length_cons, List.length_nil]
  omega
theorem hl.dot_comm : ∀ l m : List Int, hl.dot l m = hl.dot m l
  | [], [] => rfl
  | [], _ :: _ => rfl
  | _ :: _, [] => rfl
  | x :: l, y :: m => by
    show x * y + hl.dot l m = y * x + hl.dot m l
    rw [Int.mul_comm, hl.dot_comm l m]
theorem hl.dot_cnts (out : List Int) (ho : out.length = 64) (h0 : ∀ i, 0 ≤ out.getD i 0) : ∀ S, hl.Sy S → hl.dot out (hl.cnts S) = ((hf.allBits out S).length : Int) := hl.snoc_ind (fun _ => by
    have e : hl.cnts [] = List.replicate 64 0 := rfl
    rw [e, hl.dot_comm, hl.dot_zero]
    rfl) fun S s ih h => by
  obtain ⟨h1, h2, h3⟩ := h.front
  have hi := ih h1
  rw [hl.dot_comm] at hi
  rw [hl.cnts_snoc, hl.dot_comm, hl.dot_set _ _ _ _ (by rw [hl.cnts_len]; omega) (by omega), hi]
  have e : hf.allBits out (S ++ [s]) = hf.allBits out S ++ hf.codeBits out s := by unfold hf.allBits; rw [List.flatMap_append]; simp
  rw [e, List.length_append, hf.codeBits_len]
  have := h0 s.toNat
  have e2 : hf.len out s = out.getD s.toNat 0 := rfl
  rw [e2, show (hl.cnts S).getD s.toNat 0 + 1 - (hl.cnts S).getD s.toNat 0 = 1 by omega, Int.one_mul]
  omega
theorem hl.posv_sum (c : List Int) (h : ∀ i, 0 ≤ c.getD i 0) : ∀ k, k ≤ c.length → (hl.posv c k).sum = (c.take k).sum ∧ ∀ x ∈ hl.posv c k, 0 ≤ x
  | 0, _ => by
    have : hl.posv c 0 = [] := rfl
    rw [this]
    simp
  | k + 1, hk => by
    obtain ⟨i1, i2⟩ := hl.posv_sum c h k (by omega)
    have hk2 : k < c.length := by omega
    have e : c.take (k + 1) = c.take k ++ [c.getD k 0] := by
      rw [List.take_add_one, List.getElem?_eq_getElem hk2, List.getD_eq_getElem?_getD, List.getElem?_eq_getElem hk2]
      rfl
    have h0 := h k
    rw [hl.posv_succ, e, List.sum_append, List.sum_append, i1]
    split
    · refine ⟨rfl, fun x hx => ?_⟩
      rcases List.mem_append.1 hx with hx | hx
      · exact i2 x hx
      · simp only [List.mem_singleton] at hx
        omega
    · have : c.getD k 0 = 0 := by omega
      rw [this]
      refine ⟨rfl, fun x hx => ?_⟩
      rw [List.append_nil] at hx
      exact i2 x hx
theorem hl.best_six {c : List Int} (hn : c.length ≤ 64) (h : ∀ i, 0 ≤ c.getD i 0) : hl.best c ≤ 6 * c.sum := by
  obtain ⟨h1, h2⟩ := hl.posv_sum c h c.length (Nat.le_refl _)
  rw [List.take_length] at h1
  have hpl := hl.posv_len c c.length
  rw [hl.best_posv, ← h1]
  split
  · next e =>
    obtain ⟨x, hx⟩ := List.length_eq_one_iff.1 e
    rw [hx] at h2 ⊢
    have := h2 x (by simp)
    simp only [List.getD_cons_zero, List.sum_cons, List.sum_nil]
    omega
  · exact hl.hc_log 6 _ (by omega) h2
theorem hl.cnts_fault {S : List Int} (h : hl.Sy S) (hs : S.length ≤ 1048576) : hl.fault (hl.cnts S) = 0 := by
  unfold hl.fault
  rw [if_neg (by rw [hl.cnts_len]; omega), if_neg]
  intro hb
  unfold hl.bad at hb
  obtain ⟨x, hx, ho⟩ := List.any_eq_true.1 hb
  obtain ⟨i, hi⟩ := List.mem_iff_getElem?.1 hx
  have := hl.cnts_bd S h i
  rw [List.getD_eq_getElem?_getD, hi] at this
  simp only [Option.getD_some] at this
  unfold hl.out at ho
  simp at ho
  omega
/-- lengths of the least cost: each symbol has a code, and all take no more than six bits a symbol -/
theorem hl.good_bits {S out : List Int} (h : hl.Sy S) (hg : hl.Good (hl.cnts S) out (hl.best (hl.cnts S))) : (∀ s ∈ S, hf.has out s) ∧ (hf.allBits out S).length ≤ 6 * S.length ∧ out.length = 64 := by
  have hl64 : out.length = 64 := by rw [hg.len, hl.cnts_len]
  have h0 : ∀ i, 0 ≤ out.getD i 0 := fun i => by
    rw [List.getD_eq_getElem?_getD]
    cases e : out[i]? with
    | none => exact Int.le_refl _
    | some x => exact (hg.fits.2.1 x (List.mem_of_getElem? e)).1
  refine ⟨fun s hs => ?_, ?_, hl64⟩
  · obtain ⟨a, b⟩ := h s hs
    refine ⟨a, by omega, ?_⟩
    have := (hg.of s.toNat (by rw [hl.cnts_len]; omega)).2 (hl.cnts_pos S h s hs)
    have e2 : hf.len out s = out.getD s.toNat 0 := rfl
    omega
  · have h1 := hl.dot_cnts out hl64 h0 S h
    have h2 := hl.best_six (c := hl.cnts S) (by rw [hl.cnts_len]; omega) fun i => (hl.cnts_bd S h i).1
    rw [hl.cnts_sum S h] at h2
    have := hg.cost
    omega
/-- the symbols of tokens -/
def lzq.sy (ts : List Token) : List Int := (ts.filter fun t => decide (t.len = 0)).map fun t => (t.byte.toNat : Int)
theorem lzq.sy_take {ts : List Token} {k : Nat} (hk : k < ts.length) : lzq.sy (ts.take (k + 1)) = lzq.sy (ts.take k) ++ if (ts.getD k ⟨0, 0, 0⟩).len = 0 then [((ts.getD k ⟨0, 0, 0⟩).byte.toNat : Int)] else [] := by
  have e : ts.take (k + 1) = ts.take k ++ [ts.getD k ⟨0, 0, 0⟩] := by
    rw [List.take_add_one, List.getElem?_eq_getElem hk, List.getD_eq_getElem?_getD, List.getElem?_eq_getElem hk]
    rfl
  unfold lzq.sy
  rw [e, List.filter_append, List.map_append]
  congr 1
  by_cases c : (ts.getD k ⟨0, 0, 0⟩).len = 0
  · rw [if_pos c, List.filter_cons_of_pos (by simpa using c)]
    rfl
  · rw [if_neg c, List.filter_cons_of_neg (by simpa using c)]
    rfl
theorem lzq.sy_len (ts : List Token) : (lzq.sy ts).length ≤ ts.length := by
  unfold lzq.sy
  rw [List.length_map]
  exact List.length_filter_le _ _
/-- a token that copies nothing bears a byte of them -/
theorem lzq.toks_byte {b : List UInt8} (n : Nat) : ∀ a, b.length - a ≤ n → ∀ t ∈ lzq.toks b a, t.len = 0 → t.byte ∈ b := by
  induction n with
  | zero => intro a h t ht; rw [lzq.toks_end (by omega)] at ht; cases ht
  | succ n ih =>
    intro a h t ht h0
    by_cases c : a < b.length
    · have hw := lzq.wide_pos b a c
      rw [lzq.toks_more c] at ht
      rcases List.mem_cons.1 ht with rfl | ht
      · have h2 := lzq.best_two b a (min 255 a)
        unfold lzq.tok at h0 ⊢
        simp only at h0 ⊢
        split at h0
        · next c2 =>
          rw [if_pos c2]
          show b.getD a 0 ∈ b
          rw [List.getD_eq_getElem?_getD, List.getElem?_eq_getElem c]
          exact List.getElem_mem c
        · simp only at h0
          omega
      · exact ih _ (by omega) t ht h0
    · rw [lzq.toks_end (by omega)] at ht
      cases ht
theorem lzq.sy_Sy {b : List UInt8} (hb : ∀ x ∈ b, x.toNat < 64) : hl.Sy (lzq.sy (lzq.toks b 0)) := by
  intro s hs
  unfold lzq.sy at hs
  obtain ⟨t, ht, rfl⟩ := List.mem_map.1 hs
  obtain ⟨h1, h2⟩ := List.mem_filter.1 ht
  have := hb _ (lzq.toks_byte _ 0 (Nat.le_refl _) t h1 (by simpa using h2))
  omega
end Go.Proofs.Ytkbmpppendelcaa
