/- The plain law of package seg: bytes as segments. No program in sight. No condition. -/
import Derived.Test.YtedbidblnjajdaaSegP
namespace Go.Proofs.Ytedbidblnjajdaa.sg

def byteAt (b : List UInt8) (i : Nat) : Int := ((b.getD i 0).toNat : Int)
theorem byteAt_bd (b : List UInt8) (i : Nat) : 0 ≤ byteAt b i ∧ byteAt b i < 256 := by
  have := (b.getD i 0).toNat_lt
  unfold byteAt
  omega
/-- two bytes as a number -/
def w16 (b : List UInt8) (i : Nat) : Int := byteAt b i * 256 + byteAt b (i + 1)
theorem w16_bd (b : List UInt8) (i : Nat) : 0 ≤ w16 b i ∧ w16 b i < 65536 := by
  have := byteAt_bd b i
  have := byteAt_bd b (i + 1)
  unfold w16
  omega
def blank (b : List UInt8) : List UInt8 := (b.set 8 0).set 9 0
def rngs (b : List UInt8) : Nat → List Rng
  | 0 => []
  | k + 1 => rngs b k ++ [⟨w16 b (10 + 4 * k), w16 b (10 + 4 * k + 2)⟩]
theorem rngs_length (b : List UInt8) (k : Nat) : (rngs b k).length = k := by
  induction k with
  | zero => rfl
  | succ k ih => simp [rngs, ih]
theorem rngs_getD (b : List UInt8) (n k : Nat) (h : k < n) : (rngs b n).getD k ⟨0, 0⟩ = ⟨w16 b (10 + 4 * k), w16 b (10 + 4 * k + 2)⟩ := by
  induction n with
  | zero => omega
  | succ n ih =>
    rw [rngs, List.getD_eq_getElem?_getD]
    rcases Nat.lt_or_ge k n with h1 | h1
    · rw [List.getElem?_append_left (by rw [rngs_length]; exact h1), ← List.getD_eq_getElem?_getD]
      exact ih h1
    · obtain rfl : k = n := by omega
      rw [List.getElem?_append_right (by rw [rngs_length]; omega), rngs_length]
      simp
def flagAt (b : List UInt8) (i : Int) : Bool := decide (byteAt b 6 / i % 2 = 1)
def count (b : List UInt8) : Nat := (b.getD 7 0).toNat
def segOf (b : List UInt8) : Segment := { seq := w16 b 0, ack := w16 b 2, window := w16 b 4, syn := flagAt b 1, fin := flagAt b 2, rst := flagAt b 4, acks := flagAt b 8, sacks := rngs b (count b), data := b.drop (10 + 4 * count b) }
/-- the segment as far as its first k flags -/
def part (b : List UInt8) (k : Nat) : Segment := { seq := w16 b 0, ack := w16 b 2, window := w16 b 4, syn := decide (0 < k) && flagAt b 1, fin := decide (1 < k) && flagAt b 2, rst := decide (2 < k) && flagAt b 4, acks := decide (3 < k) && flagAt b 8, sacks := [], data := [] }
/-- .. and its first k ranges -/
def part2 (b : List UInt8) (k : Nat) : Segment := { segOf b with sacks := rngs b k, data := [] }
def noSeg : Segment := { seq := 0, ack := 0, window := 0, syn := false, fin := false, rst := false, acks := false, sacks := [], data := [] }
def dec (b : List UInt8) : Except Int Segment :=
  if b.length < 10 then .error 5
  else if sumOf (blank b) ≠ w16 b 8 then .error 6
  else if 16 ≤ byteAt b 6 ∨ b.length < 10 + 4 * count b then .error 4
  else if fault (segOf b) ≠ 0 then .error 4 else .ok (segOf b)
theorem u8_and_1 (y : Int) (h : 0 ≤ y ∧ y < 256) : bits .and .u8 y 1 = y % 2 := by
  obtain ⟨a, rfl⟩ := Int.eq_ofNat_of_zero_le h.1
  have ha : (BitVec.ofInt 8 (a : Int)).toNat = a := by
    rw [BitVec.ofInt_natCast, BitVec.toNat_ofNat]; exact Nat.mod_eq_of_lt (by omega)
  show IntKind.u8.wrap ((BitVec.ofInt 8 (a : Int) &&& BitVec.ofInt 8 (1 : Int)).toNat : Int) = _
  rw [BitVec.toNat_and, ha, show (BitVec.ofInt 8 (1 : Int)).toNat = 2 ^ 1 - 1 by decide, Nat.and_two_pow_sub_one_eq_mod]
  simp [IntKind.wrap, IntKind.bits, IntKind.signed]
  omega
theorem ten {b : List UInt8} (h : 10 ≤ b.length) : ∃ b0 b1 b2 b3 b4 b5 b6 b7 b8 b9 r, b = b0 :: b1 :: b2 :: b3 :: b4 :: b5 :: b6 :: b7 :: b8 :: b9 :: r := by
  have one : ∀ {n : Nat} {l : List UInt8}, n + 1 ≤ l.length → ∃ x r, l = x :: r ∧ n ≤ r.length := fun {n l} h => by
    cases l with
    | nil => simp at h
    | cons x r => exact ⟨x, r, rfl, by simpa using h⟩
  obtain ⟨b0, r0, e0, h0⟩ := one h
  obtain ⟨b1, r1, e1, h1⟩ := one h0
  obtain ⟨b2, r2, e2, h2⟩ := one h1
  obtain ⟨b3, r3, e3, h3⟩ := one h2
  obtain ⟨b4, r4, e4, h4⟩ := one h3
  obtain ⟨b5, r5, e5, h5⟩ := one h4
  obtain ⟨b6, r6, e6, h6⟩ := one h5
  obtain ⟨b7, r7, e7, h7⟩ := one h6
  obtain ⟨b8, r8, e8, h8⟩ := one h7
  obtain ⟨b9, r9, e9, h9⟩ := one h8
  exact ⟨b0, b1, b2, b3, b4, b5, b6, b7, b8, b9, r9, by rw [e0, e1, e2, e3, e4, e5, e6, e7, e8, e9]⟩
theorem byteOf_low (x : Int) (y : UInt8) : byteOf (x * 256 + (y.toNat : Int)) = y := by
  apply UInt8.toNat_inj.1
  have h := byteOf_toNat (x * 256 + (y.toNat : Int))
  have := y.toNat_lt
  omega
theorem byteOf_self (y : UInt8) : byteOf (y.toNat : Int) = y := by have := byteOf_low 0 y; simpa using this
theorem two_of (x y : UInt8) : two ((x.toNat : Int) * 256 + (y.toNat : Int)) = [x, y] := by
  have := y.toNat_lt
  rw [two, byteOf_low, show ((x.toNat : Int) * 256 + (y.toNat : Int)) / 256 = x.toNat by omega, byteOf_self]
theorem flags_of (b : List UInt8) : flagsOf (segOf b) = byteAt b 6 % 16 := by
  have := byteAt_bd b 6
  simp only [flagsOf, segOf, flagAt, decide_eq_true_eq]
  generalize byteAt b 6 = x at *
  split <;> split <;> split <;> split <;> omega
theorem ranges_of (b : List UInt8) (k : Nat) (hk : k ≤ count b) (h : 10 + 4 * count b ≤ b.length) : ranges (segOf b) k = (b.drop 10).take (4 * k) := by
  induction k with
  | zero => simp [ranges]
  | succ k ih =>
    rw [ranges, ih (by omega), show (segOf b).sacks = rngs b (count b) from rfl, rngs_getD _ _ _ (by omega)]
    simp only [w16, byteAt, two_of]
    have e : ∀ j, 10 + j < b.length → b.getD (10 + j) 0 = (b.drop 10).getD j 0 := fun j hj => by simp [List.getD_eq_getElem?_getD]
    rw [show 4 * (k + 1) = 4 * k + 4 by omega]
    have hl : (b.drop 10).length = b.length - 10 := List.length_drop
    apply List.ext_getElem?
    intro i
    rcases Nat.lt_or_ge i (4 * k) with h1 | h1
    · rw [List.getElem?_append_left (by simp; omega), List.getElem?_take, List.getElem?_take, if_pos h1, if_pos (by omega)]
    · rw [List.getElem?_append_right (by simp; omega), List.getElem?_take]
      simp only [List.length_take, hl, Nat.min_eq_left (show 4 * k ≤ b.length - 10 by omega)]
      obtain ⟨j, rfl⟩ : ∃ j, i = 4 * k + j := ⟨i - 4 * k, by omega⟩
      rw [Nat.add_sub_cancel_left, List.getElem?_drop]
      rcases (show j = 0 ∨ j = 1 ∨ j = 2 ∨ j = 3 ∨ 4 ≤ j by omega) with rfl | rfl | rfl | rfl | h4
      · rw [if_pos (by omega)]; simp [List.getD_eq_getElem?_getD]; rw [List.getElem?_eq_getElem (by omega)]; simp
      · rw [if_pos (by omega)]; simp [List.getD_eq_getElem?_getD]; rw [List.getElem?_eq_getElem (by omega)]; simp; (try rw [List.getElem?_eq_getElem (by omega)]); congr 1
      · rw [if_pos (by omega)]; simp [List.getD_eq_getElem?_getD]; rw [List.getElem?_eq_getElem (by omega)]; simp; (try rw [List.getElem?_eq_getElem (by omega)]); (try rfl)
      · rw [if_pos (by omega)]; simp [List.getD_eq_getElem?_getD]; rw [List.getElem?_eq_getElem (by omega)]; simp; (try rw [List.getElem?_eq_getElem (by omega)]); (try rfl)
      · rw [if_neg (by omega), List.getElem?_eq_none (by simp; omega)]
set_option maxRecDepth 100000 in
theorem bare_of (b : List UInt8) (h : 10 + 4 * count b ≤ b.length) : bare (segOf b) = (blank b).set 6 (byteOf (byteAt b 6 % 16)) := by
  have hr := ranges_of b (count b) (Nat.le_refl _) h
  rw [bare, show (segOf b).sacks.length = count b from rngs_length _ _, hr, show (segOf b).data = (b.drop 10).drop (4 * count b) by rw [List.drop_drop]; rfl, List.append_assoc, List.take_append_drop]
  rw [head, flags_of]
  rw [show (segOf b).sacks.length = count b from rngs_length _ _]
  simp only [segOf, w16]
  obtain ⟨b0, b1, b2, b3, b4, b5, b6, b7, b8, b9, r, rfl⟩ := ten (show 10 ≤ b.length by omega)
  · simp only [byteAt, count, List.getD_cons_zero, List.getD_cons_succ, two_of, byteOf_self]
    simp [blank, List.set]
set_option maxRecDepth 100000 in
theorem enc_yes (b : List UInt8) (h10 : 10 ≤ b.length) (h : 10 + 4 * count b ≤ b.length) (hs : sumOf (blank b) = w16 b 8) (hf : fault (segOf b) = 0) (h6 : byteAt b 6 < 16) : enc (segOf b) = .ok b := by
  have h0 := byteAt_bd b 6
  have hb : bare (segOf b) = blank b := by
    rw [bare_of b h, Int.emod_eq_of_lt h0.1 h6]
    obtain ⟨b0, b1, b2, b3, b4, b5, b6, b7, b8, b9, r, rfl⟩ := ten h10
    simp [blank, byteAt, byteOf_self, List.set]
  rw [enc, if_pos hf, summed, hb, hs]
  refine congrArg _ ?_
  clear hs hf hb
  obtain ⟨b0, b1, b2, b3, b4, b5, b6, b7, b8, b9, r, rfl⟩ := ten h10
  · have := two_of b8 b9
    rw [two] at this
    simp only [List.cons.injEq, and_true] at this
    simp [blank, w16, byteAt, List.set, this.1, this.2]
set_option maxRecDepth 100000 in
theorem enc_no (b : List UInt8) (h10 : 10 ≤ b.length) (h : 10 + 4 * count b ≤ b.length) (h6 : 16 ≤ byteAt b 6) (l : List UInt8) (hl : enc (segOf b) = .ok l) : l ≠ b := by
  have h0 := byteAt_bd b 6
  unfold enc at hl
  split at hl
  · cases hl
    rw [summed, bare_of b h]
    intro e
    have : ((((blank b).set 6 (byteOf (byteAt b 6 % 16))).set 8 (byteOf (sumOf ((blank b).set 6 (byteOf (byteAt b 6 % 16))) / 256))).set 9 (byteOf (sumOf ((blank b).set 6 (byteOf (byteAt b 6 % 16)))))).getD 6 0 = byteOf (byteAt b 6 % 16) := by
      rw [List.getD_eq_getElem?_getD, List.getElem?_set_ne (by decide), List.getElem?_set_ne (by decide), List.getElem?_set_self (by simp [blank]; omega)]
      rfl
    rw [e] at this
    have h2 := byteOf_toNat (byteAt b 6 % 16)
    rw [← this] at h2
    unfold byteAt at *
    omega
  · cases hl
theorem exC_enc (s : Segment) : exC (enc s) = fault s := by
  unfold enc
  split
  · rename_i h
    rw [h]
    rfl
  · rfl
/-- the reference's way: what is read is encoded again -/
theorem dec_ref (b : List UInt8) (h10 : 10 ≤ b.length) (h : 10 + 4 * count b ≤ b.length) (hs : sumOf (blank b) = w16 b 8) :
    dec b = if fault (segOf b) = 0 ∧ exL (enc (segOf b)) = b then .ok (segOf b) else .error 4 := by
  unfold dec
  rw [if_neg (by omega), if_neg (fun e => e hs)]
  by_cases h6 : byteAt b 6 < 16
  · rw [if_neg (by omega)]
    by_cases hf : fault (segOf b) = 0
    · rw [if_neg (fun e => e hf), if_pos ⟨hf, by rw [enc_yes b h10 h hs hf h6]; rfl⟩]
    · rw [if_pos hf, if_neg (fun e => hf e.1)]
  · rw [if_pos (by omega), if_neg]
    rintro ⟨hf, he⟩
    cases hh : enc (segOf b) with
    | ok l => rw [hh] at he; exact enc_no b h10 h (by omega) l hh he
    | error c => rw [enc, if_pos hf] at hh; cases hh
end Go.Proofs.Ytedbidblnjajdaa.sg
