/- The plain law of reading codes: no code begins another. No condition. -/
import Derived.Test.YtbklccknohmibaaHuffQ
namespace Go.Proofs.Ytbklccknohmibaa.hf

/-- what stands ahead of a code is a multiple of its part -/
theorem sumP_dvd {f : Int → Nat} {d : Nat} : ∀ {L : List Int}, (∀ x ∈ L, d ∣ f x) → d ∣ sumP f L
  | [], _ => ⟨0, rfl⟩
  | x :: L, h => by
    have e : sumP f (x :: L) = f x + sumP f L := by simp [sumP]
    rw [e]
    exact Nat.dvd_add (h x (by simp)) (sumP_dvd fun y hy => h y (by simp [hy]))
theorem used_dvd {l : List Int} (hft : fits l) {s : Int} (hs : s ∈ syms l) : part (len l s) ∣ used l s := by
  unfold used
  refine sumP_dvd fun t ht => ?_
  rw [List.mem_filter] at ht
  have h1 := fits_len hft ht.1
  have h2 := fits_len hft hs
  have h3 := ahead_iff.1 ht.2
  have hle : len l t ≤ len l s := h3.le
  unfold partOf
  exact ⟨2 ^ (len l s - len l t).toNat, by rw [Nat.mul_comm]; exact (part_shift (by omega) hle h2.2).symm⟩
theorem used_code {l : List Int} (hft : fits l) {s : Int} (hs : s ∈ syms l) : used l s = (codeOf l s).toNat * part (len l s) := by
  have h := fits_len hft hs
  obtain ⟨q, hq⟩ := used_dvd hft hs
  unfold codeOf
  rw [if_neg (by omega), Int.toNat_natCast, hq, Nat.mul_div_cancel_left _ (part_pos _), Nat.mul_comm]
theorem sumP_sub {f : Int → Nat} : ∀ {L : List Int} {p q : Int → Bool} {s : Int}, s ∈ L → q s = true → p s = false → (∀ x ∈ L, p x = true → q x = true) → sumP f (L.filter p) + f s ≤ sumP f (L.filter q)
  | [], _, _, _, h, _, _, _ => by simp at h
  | x :: L, p, q, s, h, hq, hp, hpq => by
    have e : ∀ (M : List Int) y, sumP f (y :: M) = f y + sumP f M := fun M y => by simp [sumP]
    have hmono : sumP f (L.filter p) ≤ sumP f (L.filter q) := by
      have : L.filter p = (L.filter q).filter p := by
        rw [List.filter_filter]
        apply List.filter_congr
        intro y hy
        have := hpq y (by simp [hy])
        cases h1 : p y <;> cases h2 : q y <;> simp_all
      rw [this]
      exact sumP_filter_le f p _
    rcases List.mem_cons.1 h with rfl | h2
    · rw [List.filter_cons, List.filter_cons, hp, hq, if_neg (by simp), if_pos rfl, e]
      omega
    · have ih := sumP_sub (f := f) (p := p) (q := q) h2 hq hp (fun y hy => hpq y (by simp [hy]))
      rw [List.filter_cons, List.filter_cons]
      by_cases h3 : p x = true
      · rw [if_pos h3, if_pos (hpq x (by simp) h3), e, e]
        omega
      · rw [if_neg h3]
        split
        · rw [e]; omega
        · exact ih
theorem used_lt {l : List Int} {s t : Int} (hs : s ∈ syms l) (h : so.lx (len l) s t) : used l s + partOf l s ≤ used l t := by
  unfold used
  refine sumP_sub hs (ahead_iff.2 h) ?_ ?_
  · cases h2 : ahead l s s
    · rfl
    · exact absurd (ahead_iff.1 h2) so.lx.irrefl
  · intro x _ hx
    exact ahead_iff.2 ((ahead_iff.1 hx).trans h)
/-- a code lies below its power of two -/
theorem code_lt {l : List Int} (hft : fits l) {s : Int} (hs : s ∈ syms l) : (codeOf l s).toNat < 2 ^ (len l s).toNat := by
  have h := fits_len hft hs
  have h1 := used_code hft hs
  have h2 : used l s + partOf l s ≤ sumP (partOf l) (syms l) := by
    unfold used
    have h3 := sumP_sub (f := partOf l) (p := ahead l s) (q := fun _ => true) hs rfl (by
      cases h2 : ahead l s s
      · rfl
      · exact absurd (ahead_iff.1 h2) so.lx.irrefl) (fun _ _ _ => rfl)
    have e : (syms l).filter (fun _ => true) = syms l := List.filter_eq_self.2 (fun _ _ => rfl)
    rwa [e] at h3
  have h3 := hft.2.2
  have h4 : 2 ^ (len l s).toNat * part (len l s) = 1099511627776 := by
    unfold part
    rw [← Nat.pow_add, show (len l s).toNat + (40 - (len l s).toNat) = 40 by omega]
  rw [show partOf l s = part (len l s) from rfl, h1] at h2
  generalize part (len l s) = p at *
  generalize (codeOf l s).toNat = c at *
  generalize 2 ^ (len l s).toNat = z at *
  by_cases hcz : c < z
  · exact hcz
  · have : z * p ≤ c * p := Nat.mul_le_mul_right _ (by omega)
    have hp : 0 < p := by
      rcases Nat.eq_zero_or_pos p with rfl | h
      · simp at h4
      · exact h
    omega
theorem lx_total (key : Int → Int) (s t : Int) : so.lx key s t ∨ s = t ∨ so.lx key t s := by unfold so.lx; omega
/-- no code begins another -/
theorem prefix_free {l : List Int} (hft : fits l) {s t : Int} (hs : s ∈ syms l) (ht : t ∈ syms l) (hle : len l s ≤ len l t) (h : (codeOf l t).toNat / 2 ^ (len l t - len l s).toNat = (codeOf l s).toNat) : s = t := by
  have h1 := fits_len hft hs
  have h2 := fits_len hft ht
  have u1 := used_code hft hs
  have u2 := used_code hft ht
  have hsh := part_shift (by omega) hle h2.2
  rcases lx_total (len l) s t with h3 | rfl | h3
  · exfalso
    have h4 := used_lt hs h3
    unfold partOf at h4
    rw [u1, u2, ← hsh] at h4
    generalize (codeOf l s).toNat = c at *
    generalize (codeOf l t).toNat = d at *
    generalize hz : 2 ^ (len l t - len l s).toNat = z at *
    have hp := part_pos (len l t)
    generalize part (len l t) = p at *
    have h5 : (c + 1) * z * p ≤ d * p := by
      have : (c + 1) * z * p = c * (z * p) + z * p := by rw [Nat.add_mul, Nat.add_mul, Nat.one_mul, Nat.mul_assoc]
      omega
    have h6 := Nat.le_of_mul_le_mul_right h5 hp
    have hzp : 0 < z := by rw [← hz]; exact Nat.two_pow_pos _
    have h7 : c + 1 ≤ d / z := (Nat.le_div_iff_mul_le hzp).2 h6
    omega
  · rfl
  · exfalso
    have hlen : len l t = len l s := by have := h3.le; omega
    have h4 := used_lt ht h3
    unfold partOf at h4
    rw [u1, u2, hlen] at h4
    rw [hlen, Int.sub_self, show (0 : Int).toNat = 0 from rfl, Nat.pow_zero, Nat.div_one] at h
    have hp := part_pos (len l s)
    rw [h] at h4
    omega

/-! ### Bits of bytes -/
def bitAt (b : List UInt8) (i : Nat) : Nat := (b.getD (i / 8) 0).toNat / 2 ^ (7 - i % 8) % 2
def numAt (b : List UInt8) (a : Nat) : Nat → Nat
  | 0 => 0
  | k + 1 => 2 * numAt b a k + bitAt b (a + k)
theorem numAt_succ (b : List UInt8) (a k : Nat) : numAt b a (k + 1) = 2 * numAt b a k + bitAt b (a + k) := rfl
theorem bitAt_le (b : List UInt8) (i : Nat) : bitAt b i ≤ 1 := by unfold bitAt; omega
theorem numAt_lt (b : List UInt8) (a : Nat) : ∀ k, numAt b a k < 2 ^ k
  | 0 => by simp [numAt]
  | k + 1 => by
    have h := numAt_lt b a k
    have h2 := bitAt_le b (a + k)
    rw [numAt_succ, Nat.pow_succ]
    omega
/-- one bit more of the same -/
theorem same_step {c n k : Nat} (hk : k < n) (x y : Nat) (hx : x ≤ 1) : 2 * y + x = c / 2 ^ (n - (k + 1)) ↔ y = c / 2 ^ (n - k) ∧ x = bit c (n - 1 - k) := by
  unfold bit
  have e : n - k = (n - (k + 1)) + 1 := by omega
  have e2 : c / 2 ^ (n - k) = c / 2 ^ (n - (k + 1)) / 2 := by rw [e, Nat.pow_succ, Nat.div_div_eq_div_mul]
  rw [e2, show n - 1 - k = n - (k + 1) by omega]
  generalize c / 2 ^ (n - (k + 1)) = z
  omega
/-- the first k bits from a on are those of the code -/
def Same (b : List UInt8) (a c n k : Nat) : Prop := numAt b a k = c / 2 ^ (n - k)
theorem Same.zero {b : List UInt8} {a c n : Nat} (h : c < 2 ^ n) : Same b a c n 0 := by unfold Same numAt; rw [Nat.sub_zero, Nat.div_eq_of_lt h]
theorem Same.succ {b : List UInt8} {a c n k : Nat} (hk : k < n) : Same b a c n (k + 1) ↔ Same b a c n k ∧ bitAt b (a + k) = bit c (n - 1 - k) := by
  unfold Same
  rw [numAt_succ]
  exact same_step hk _ _ (bitAt_le _ _)
theorem Same.mono {b : List UInt8} {a c n : Nat} : ∀ {k j : Nat}, Same b a c n k → j ≤ k → k ≤ n → Same b a c n j
  | 0, j, h, hj, _ => by rw [show j = 0 by omega]; exact h
  | k + 1, j, h, hj, hn => by
    by_cases e : j = k + 1
    · rw [e]; exact h
    · exact Same.mono ((Same.succ (by omega)).1 h).1 (by omega) (by omega)
def lenN (l : List Int) (s : Int) : Nat := (len l s).toNat
def codeN (l : List Int) (s : Int) : Nat := (codeOf l s).toNat
/-- a code stands here whole -/
def Hit (l : List Int) (b : List UInt8) (a : Nat) (s : Int) : Prop := s ∈ syms l ∧ a + lenN l s ≤ 8 * b.length ∧ numAt b a (lenN l s) = codeN l s
/-- a code begins here, and the bytes end -/
def Begun (l : List Int) (b : List UInt8) (a : Nat) (s : Int) : Prop := s ∈ syms l ∧ 8 * b.length < a + lenN l s ∧ Same b a (codeN l s) (lenN l s) (8 * b.length - a)
theorem Hit.same {l : List Int} {b : List UInt8} {a : Nat} {s : Int} : numAt b a (lenN l s) = codeN l s ↔ Same b a (codeN l s) (lenN l s) (lenN l s) := by
  unfold Same; rw [Nat.sub_self, Nat.pow_zero, Nat.div_one]
theorem Hit.unique {l : List Int} {b : List UInt8} {a : Nat} {s t : Int} (hft : fits l) (hs : Hit l b a s) (ht : Hit l b a t) : s = t := by
  have key : ∀ {s t : Int}, Hit l b a s → Hit l b a t → len l s ≤ len l t → s = t := by
    intro s t hs ht hle
    have h1 := fits_len hft hs.1
    have h2 := fits_len hft ht.1
    refine prefix_free hft hs.1 ht.1 hle ?_
    have h3 := Same.mono (Hit.same.1 ht.2.2) (j := lenN l s) (by unfold lenN; omega) (Nat.le_refl _)
    unfold Same at h3
    rw [hs.2.2] at h3
    rw [show (len l t - len l s).toNat = lenN l t - lenN l s by unfold lenN; omega]
    exact h3.symm
  by_cases h : len l s ≤ len l t
  · exact key hs ht h
  · exact (key ht hs (by omega)).symm
open Classical in
/-- what stands at a bit: a symbol, or a fault -/
noncomputable def nextOf (l : List Int) (b : List UInt8) (a : Nat) : Int × Nat × Int :=
  if h : ∃ s, Hit l b a s then (h.choose, lenN l h.choose, 0) else if ∃ s, Begun l b a s then (0, 0, 5) else (0, 0, 7)
theorem nextOf_hit {l : List Int} {b : List UInt8} {a : Nat} {s : Int} (hft : fits l) (h : Hit l b a s) : nextOf l b a = (s, lenN l s, 0) := by
  have hx : ∃ s, Hit l b a s := ⟨s, h⟩
  unfold nextOf
  rw [dif_pos hx, Hit.unique hft hx.choose_spec h]
theorem nextOf_short {l : List Int} {b : List UInt8} {a : Nat} (h : ∀ s, ¬ Hit l b a s) (hb : ∃ s, Begun l b a s) : nextOf l b a = (0, 0, 5) := by
  unfold nextOf
  rw [dif_neg (fun ⟨s, hs⟩ => h s hs), if_pos hb]
theorem nextOf_none {l : List Int} {b : List UInt8} {a : Nat} (h : ∀ s, ¬ Hit l b a s) (hb : ∀ s, ¬ Begun l b a s) : nextOf l b a = (0, 0, 7) := by
  unfold nextOf
  rw [dif_neg (fun ⟨s, hs⟩ => h s hs), if_neg (fun ⟨s, hs⟩ => hb s hs)]
theorem nextOf_bound {l : List Int} {b : List UInt8} {a : Nat} (h : (nextOf l b a).2.2 = 0) : a + (nextOf l b a).2.1 ≤ 8 * b.length := by
  unfold nextOf at *
  split at h
  · next hx => rw [dif_pos hx]; exact hx.choose_spec.2.1
  · next hx =>
    split at h
    · simp at h
    · simp at h
/-- what the search over the first j symbols has found -/
def Found (l : List Int) (b : List UInt8) (a j : Nat) (f : Int) : Prop := (f = -1 ∧ ∀ t : Nat, t < j → ¬ Hit l b a t) ∨ ∃ t : Nat, t < j ∧ Hit l b a t ∧ f = t
def Begs (l : List Int) (b : List UInt8) (a j : Nat) (g : Bool) : Prop := g = true ↔ ∃ t : Nat, t < j ∧ Begun l b a t
theorem Found.zero (l : List Int) (b : List UInt8) (a : Nat) : Found l b a 0 (-1) := .inl ⟨rfl, fun t h => by omega⟩
theorem Begs.zero (l : List Int) (b : List UInt8) (a : Nat) : Begs l b a 0 false := ⟨fun h => (by cases h), fun h => (by obtain ⟨t, h, _⟩ := h; omega)⟩
theorem Found.miss {l : List Int} {b : List UInt8} {a j : Nat} {f : Int} (h : Found l b a j f) (hn : ¬ Hit l b a j) : Found l b a (j + 1) f := by
  rcases h with ⟨h1, h2⟩ | ⟨t, h1, h2, h3⟩
  · refine .inl ⟨h1, fun t ht => ?_⟩
    by_cases e : t = j
    · subst e; exact hn
    · exact h2 t (by omega)
  · exact .inr ⟨t, by omega, h2, h3⟩
theorem Found.hit {l : List Int} {b : List UInt8} {a j : Nat} (h : Hit l b a j) : Found l b a (j + 1) (j : Int) := .inr ⟨j, by omega, h, rfl⟩
theorem Begs.miss {l : List Int} {b : List UInt8} {a j : Nat} {g : Bool} (h : Begs l b a j g) (hn : ¬ Begun l b a j) : Begs l b a (j + 1) g := by
  unfold Begs at *
  rw [h]
  constructor
  · rintro ⟨t, h1, h2⟩; exact ⟨t, by omega, h2⟩
  · rintro ⟨t, h1, h2⟩
    by_cases e : t = j
    · subst e; exact absurd h2 hn
    · exact ⟨t, by omega, h2⟩
theorem Begs.hit {l : List Int} {b : List UInt8} {a j : Nat} (h : Begun l b a j) : Begs l b a (j + 1) true := by
  unfold Begs
  exact ⟨fun _ => ⟨j, by omega, h⟩, fun _ => rfl⟩
theorem Found.next {l : List Int} {b : List UInt8} {a : Nat} {f : Int} (hft : fits l) (h : Found l b a l.length f) (hf : 0 ≤ f) : nextOf l b a = (f, lenN l f, 0) ∧ ∃ t : Nat, t < l.length ∧ f = t := by
  rcases h with ⟨h1, h2⟩ | ⟨t, h1, h2, rfl⟩
  · omega
  · exact ⟨nextOf_hit hft h2, t, h1, rfl⟩
theorem Found.none {l : List Int} {b : List UInt8} {a : Nat} {f : Int} (h : Found l b a l.length f) (hf : f < 0) : ∀ s, ¬ Hit l b a s := by
  rcases h with ⟨h1, h2⟩ | ⟨t, h1, h2, rfl⟩
  · intro s hs
    obtain ⟨t, h3, _, rfl⟩ := mem_syms.1 hs.1
    exact h2 t h3 hs
  · omega
theorem Found.short {l : List Int} {b : List UInt8} {a : Nat} {f : Int} (h : Found l b a l.length f) (hf : f < 0) (hg : Begs l b a l.length true) : nextOf l b a = (0, 0, 5) := by
  obtain ⟨t, _, h2⟩ := hg.1 rfl
  exact nextOf_short (h.none hf) ⟨t, h2⟩
theorem Found.miss_all {l : List Int} {b : List UInt8} {a : Nat} {f : Int} (h : Found l b a l.length f) (hf : f < 0) (hg : Begs l b a l.length false) : nextOf l b a = (0, 0, 7) := by
  refine nextOf_none (h.none hf) fun s hs => ?_
  obtain ⟨t, h3, _, rfl⟩ := mem_syms.1 hs.1
  have := hg.2 ⟨t, h3, hs⟩
  cases this
/-- the comparison bit by bit comes to its end -/
theorem cmp_hit {l : List Int} {b : List UInt8} {a j : Nat} (hs : (j : Int) ∈ syms l) (h : Same b a (codeN l j) (lenN l j) (lenN l j)) (ha : a + lenN l j ≤ 8 * b.length) : Hit l b a j ∧ ¬ Begun l b a j :=
  ⟨⟨hs, ha, Hit.same.2 h⟩, fun hb => by have := hb.2.1; omega⟩
theorem cmp_end {l : List Int} {b : List UInt8} {a j m : Nat} (hs : (j : Int) ∈ syms l) (hm : m < lenN l j) (h : Same b a (codeN l j) (lenN l j) m) (ha : a + m = 8 * b.length) : ¬ Hit l b a j ∧ Begun l b a j :=
  ⟨fun hh => by have := hh.2.1; omega, hs, by omega, by rw [show 8 * b.length - a = m by omega]; exact h⟩
theorem cmp_diff {l : List Int} {b : List UInt8} {a j m : Nat} (hm : m < lenN l j) (ha : a + m < 8 * b.length) (h : bitAt b (a + m) ≠ bit (codeN l j) (lenN l j - 1 - m)) : ¬ Hit l b a j ∧ ¬ Begun l b a j := by
  constructor
  · intro hh
    have h2 := Same.mono (Hit.same.1 hh.2.2) (j := m + 1) (by omega) (Nat.le_refl _)
    exact h ((Same.succ hm).1 h2).2
  · intro hh
    have h2 := Same.mono hh.2.2 (j := m + 1) (by omega) (by have := hh.2.1; omega)
    exact h ((Same.succ hm).1 h2).2
/-- so many symbols read: the symbols, the bit behind them, the fault -/
noncomputable def decTo (l : List Int) (b : List UInt8) : Nat → List Int × Nat × Int
  | 0 => ([], 0, 0)
  | i + 1 => if (decTo l b i).2.2 = 0 then
      (if (nextOf l b (decTo l b i).2.1).2.2 = 0 then ((decTo l b i).1 ++ [(nextOf l b (decTo l b i).2.1).1], (decTo l b i).2.1 + (nextOf l b (decTo l b i).2.1).2.1, 0)
       else ((decTo l b i).1, (decTo l b i).2.1, (nextOf l b (decTo l b i).2.1).2.2)) else decTo l b i
theorem decTo_ok {l : List Int} {b : List UInt8} {i a : Nat} {L : List Int} {s : Int} {n : Nat} (h : decTo l b i = (L, a, 0)) (h2 : nextOf l b a = (s, n, 0)) : decTo l b (i + 1) = (L ++ [s], a + n, 0) := by
  rw [decTo, h]
  simp [h2]
theorem decTo_err {l : List Int} {b : List UInt8} {i a : Nat} {L : List Int} {s : Int} {n : Nat} {e : Int} (h : decTo l b i = (L, a, 0)) (h2 : nextOf l b a = (s, n, e)) (he : e ≠ 0) : (decTo l b (i + 1)).2.2 = e := by
  rw [decTo, h]
  simp [h2, he]
theorem decTo_bad {l : List Int} {b : List UInt8} {i : Nat} (h : (decTo l b i).2.2 ≠ 0) : ∀ j, i ≤ j → (decTo l b j).2.2 = (decTo l b i).2.2 := by
  intro j hj
  induction j with
  | zero => rw [show i = 0 by omega]
  | succ j ih =>
    by_cases e : i = j + 1
    · rw [e]
    · have h2 := ih (by omega)
      rw [decTo, if_neg (by rw [h2]; exact h), h2]
end Go.Proofs.Ytbklccknohmibaa.hf
