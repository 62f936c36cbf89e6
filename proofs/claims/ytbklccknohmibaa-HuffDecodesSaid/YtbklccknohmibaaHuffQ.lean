/- The plain law of bits packed into bytes. No condition. -/
import Derived.Test.YtbklccknohmibaaHuffP
namespace Go.Proofs.Ytbklccknohmibaa.hf

/-- eight bits make a byte, the first the highest -/
def byteAt (B : List Nat) (i : Nat) : Nat := B.getD (8 * i) 0 * 128 + B.getD (8 * i + 1) 0 * 64 + B.getD (8 * i + 2) 0 * 32 + B.getD (8 * i + 3) 0 * 16 + B.getD (8 * i + 4) 0 * 8 + B.getD (8 * i + 5) 0 * 4 + B.getD (8 * i + 6) 0 * 2 + B.getD (8 * i + 7) 0
def packN (N : Nat) (B : List Nat) : List Nat := (List.range N).map (byteAt B)
def pack (B : List Nat) : List Nat := packN ((B.length + 7) / 8) B
def Bits (B : List Nat) : Prop := ∀ x ∈ B, x ≤ 1
theorem packN_len (N : Nat) (B : List Nat) : (packN N B).length = N := by unfold packN; simp
theorem packN_at {N : Nat} {B : List Nat} {i : Nat} (h : i < N) : (packN N B)[i]? = some (byteAt B i) := by unfold packN; rw [List.getElem?_map, List.getElem?_range h]; rfl
theorem getD_end {B : List Nat} {i : Nat} (h : B.length ≤ i) : B.getD i 0 = 0 := by rw [List.getD_eq_getElem?_getD, List.getElem?_eq_none h]; rfl
theorem getD_le {B : List Nat} (h : Bits B) (i : Nat) : B.getD i 0 ≤ 1 := by
  by_cases hi : i < B.length
  · rw [List.getD_eq_getElem?_getD, List.getElem?_eq_getElem hi]; exact h _ (List.getElem_mem hi)
  · rw [getD_end (by omega)]; omega
theorem getD_snoc (B : List Nat) (x i : Nat) : (B ++ [x]).getD i 0 = B.getD i 0 + if i = B.length then x else 0 := by
  rw [List.getD_eq_getElem?_getD, List.getD_eq_getElem?_getD]
  by_cases h : i < B.length
  · rw [List.getElem?_append_left h, if_neg (by omega), Nat.add_zero]
  · by_cases e : i = B.length
    · subst e; rw [List.getElem?_append_right (Nat.le_refl _), Nat.sub_self, if_pos rfl, List.getElem?_eq_none (Nat.le_refl _)]; simp
    · rw [if_neg e, List.getElem?_eq_none (by simp; omega), List.getElem?_eq_none (by omega)]; rfl
theorem byteAt_le {B : List Nat} (h : Bits B) (i : Nat) : byteAt B i ≤ 255 := by
  have := getD_le h (8 * i); have := getD_le h (8 * i + 1); have := getD_le h (8 * i + 2); have := getD_le h (8 * i + 3)
  have := getD_le h (8 * i + 4); have := getD_le h (8 * i + 5); have := getD_le h (8 * i + 6); have := getD_le h (8 * i + 7)
  unfold byteAt
  omega
theorem byteAt_snoc (B : List Nat) (x i : Nat) : byteAt (B ++ [x]) i = byteAt B i + if i = B.length / 8 then x * 2 ^ (7 - B.length % 8) else 0 := by
  unfold byteAt
  simp only [getD_snoc]
  by_cases h : i = B.length / 8
  · rw [if_pos h]
    have hr : B.length % 8 < 8 := Nat.mod_lt _ (by decide)
    have hd := Nat.div_add_mod B.length 8
    rw [← h] at hd
    generalize B.length % 8 = r at *
    have c : r = 0 ∨ r = 1 ∨ r = 2 ∨ r = 3 ∨ r = 4 ∨ r = 5 ∨ r = 6 ∨ r = 7 := by omega
    rcases c with rfl | rfl | rfl | rfl | rfl | rfl | rfl | rfl
    · simp only [show (8 * i = B.length) = True by simp; omega, show (8 * i + 1 = B.length) = False by simp; omega, show (8 * i + 2 = B.length) = False by simp; omega, show (8 * i + 3 = B.length) = False by simp; omega, show (8 * i + 4 = B.length) = False by simp; omega, show (8 * i + 5 = B.length) = False by simp; omega, show (8 * i + 6 = B.length) = False by simp; omega, show (8 * i + 7 = B.length) = False by simp; omega, if_true, if_false]; omega
    · simp only [show (8 * i = B.length) = False by simp; omega, show (8 * i + 1 = B.length) = True by simp; omega, show (8 * i + 2 = B.length) = False by simp; omega, show (8 * i + 3 = B.length) = False by simp; omega, show (8 * i + 4 = B.length) = False by simp; omega, show (8 * i + 5 = B.length) = False by simp; omega, show (8 * i + 6 = B.length) = False by simp; omega, show (8 * i + 7 = B.length) = False by simp; omega, if_true, if_false]; omega
    · simp only [show (8 * i = B.length) = False by simp; omega, show (8 * i + 1 = B.length) = False by simp; omega, show (8 * i + 2 = B.length) = True by simp; omega, show (8 * i + 3 = B.length) = False by simp; omega, show (8 * i + 4 = B.length) = False by simp; omega, show (8 * i + 5 = B.length) = False by simp; omega, show (8 * i + 6 = B.length) = False by simp; omega, show (8 * i + 7 = B.length) = False by simp; omega, if_true, if_false]; omega
    · simp only [show (8 * i = B.length) = False by simp; omega, show (8 * i + 1 = B.length) = False by simp; omega, show (8 * i + 2 = B.length) = False by simp; omega, show (8 * i + 3 = B.length) = True by simp; omega, show (8 * i + 4 = B.length) = False by simp; omega, show (8 * i + 5 = B.length) = False by simp; omega, show (8 * i + 6 = B.length) = False by simp; omega, show (8 * i + 7 = B.length) = False by simp; omega, if_true, if_false]; omega
    · simp only [show (8 * i = B.length) = False by simp; omega, show (8 * i + 1 = B.length) = False by simp; omega, show (8 * i + 2 = B.length) = False by simp; omega, show (8 * i + 3 = B.length) = False by simp; omega, show (8 * i + 4 = B.length) = True by simp; omega, show (8 * i + 5 = B.length) = False by simp; omega, show (8 * i + 6 = B.length) = False by simp; omega, show (8 * i + 7 = B.length) = False by simp; omega, if_true, if_false]; omega
    · simp only [show (8 * i = B.length) = False by simp; omega, show (8 * i + 1 = B.length) = False by simp; omega, show (8 * i + 2 = B.length) = False by simp; omega, show (8 * i + 3 = B.length) = False by simp; omega, show (8 * i + 4 = B.length) = False by simp; omega, show (8 * i + 5 = B.length) = True by simp; omega, show (8 * i + 6 = B.length) = False by simp; omega, show (8 * i + 7 = B.length) = False by simp; omega, if_true, if_false]; omega
    · simp only [show (8 * i = B.length) = False by simp; omega, show (8 * i + 1 = B.length) = False by simp; omega, show (8 * i + 2 = B.length) = False by simp; omega, show (8 * i + 3 = B.length) = False by simp; omega, show (8 * i + 4 = B.length) = False by simp; omega, show (8 * i + 5 = B.length) = False by simp; omega, show (8 * i + 6 = B.length) = True by simp; omega, show (8 * i + 7 = B.length) = False by simp; omega, if_true, if_false]; omega
    · simp only [show (8 * i = B.length) = False by simp; omega, show (8 * i + 1 = B.length) = False by simp; omega, show (8 * i + 2 = B.length) = False by simp; omega, show (8 * i + 3 = B.length) = False by simp; omega, show (8 * i + 4 = B.length) = False by simp; omega, show (8 * i + 5 = B.length) = False by simp; omega, show (8 * i + 6 = B.length) = False by simp; omega, show (8 * i + 7 = B.length) = True by simp; omega, if_true, if_false]; omega
  · rw [if_neg h]
    rw [if_neg (by omega), if_neg (by omega), if_neg (by omega), if_neg (by omega), if_neg (by omega), if_neg (by omega), if_neg (by omega), if_neg (by omega)]
    omega
/-- the low bits are free still -/
theorem byteAt_low (B : List Nat) : byteAt B (B.length / 8) % 2 ^ (8 - B.length % 8) = 0 := by
  have hr : B.length % 8 < 8 := Nat.mod_lt _ (by decide)
  have hd := Nat.div_add_mod B.length 8
  generalize B.length % 8 = r at *
  generalize B.length / 8 = i at *
  have z : ∀ j, r ≤ j → B.getD (8 * i + j) 0 = 0 := fun j hj => getD_end (by omega)
  have z0 : r ≤ 0 → B.getD (8 * i) 0 = 0 := fun h => z 0 h
  unfold byteAt
  have c : r = 0 ∨ r = 1 ∨ r = 2 ∨ r = 3 ∨ r = 4 ∨ r = 5 ∨ r = 6 ∨ r = 7 := by omega
  rcases c with rfl | rfl | rfl | rfl | rfl | rfl | rfl | rfl
  · rw [z0 (by omega), z 1 (by omega), z 2 (by omega), z 3 (by omega), z 4 (by omega), z 5 (by omega), z 6 (by omega), z 7 (by omega)]
  · rw [z 1 (by omega), z 2 (by omega), z 3 (by omega), z 4 (by omega), z 5 (by omega), z 6 (by omega), z 7 (by omega)]; omega
  · rw [z 2 (by omega), z 3 (by omega), z 4 (by omega), z 5 (by omega), z 6 (by omega), z 7 (by omega)]; omega
  · rw [z 3 (by omega), z 4 (by omega), z 5 (by omega), z 6 (by omega), z 7 (by omega)]; omega
  · rw [z 4 (by omega), z 5 (by omega), z 6 (by omega), z 7 (by omega)]; omega
  · rw [z 5 (by omega), z 6 (by omega), z 7 (by omega)]; omega
  · rw [z 6 (by omega), z 7 (by omega)]; omega
  · rw [z 7 (by omega)]; omega
/-- one bit more, in the last byte -/
theorem packN_snoc {N : Nat} {B : List Nat} {x : Nat} : packN N (B ++ [x]) = (packN N B).set (B.length / 8) (byteAt B (B.length / 8) + x * 2 ^ (7 - B.length % 8)) := by
  apply List.ext_getElem?
  intro j
  rw [List.getElem?_set, packN_len]
  by_cases h : j < N
  · rw [packN_at h, packN_at h, byteAt_snoc]
    by_cases e : B.length / 8 = j
    · subst e
      rw [if_pos rfl, if_pos rfl, if_pos h]
    · rw [if_neg e, if_neg (fun x => e x.symm), Nat.add_zero]
  · rw [List.getElem?_eq_none (by rw [packN_len]; omega)]
    by_cases e : B.length / 8 = j
    · subst e; rw [if_pos rfl, if_neg h]
    · rw [if_neg e, List.getElem?_eq_none (by rw [packN_len]; omega)]
theorem packN_last {B : List Nat} (h : B.length % 8 = 0) : packN (B.length / 8 + 1) B = pack B ++ [0] := by
  have e : (B.length + 7) / 8 = B.length / 8 := by omega
  have hz : byteAt B (B.length / 8) = 0 := by
    have hl := byteAt_low B
    unfold byteAt
    have z : ∀ j, B.getD (8 * (B.length / 8) + j) 0 = 0 := fun j => getD_end (by omega)
    rw [show B.getD (8 * (B.length / 8)) 0 = 0 from z 0, z 1, z 2, z 3, z 4, z 5, z 6, z 7]
  unfold pack packN
  rw [e, List.range_succ, List.map_append, List.map_cons, List.map_nil, hz]
theorem pack_mid {B : List Nat} (h : B.length % 8 ≠ 0) : pack B = packN (B.length / 8 + 1) B := by
  unfold pack
  rw [show (B.length + 7) / 8 = B.length / 8 + 1 by omega]
theorem pack_snoc (B : List Nat) (x : Nat) : pack (B ++ [x]) = packN (B.length / 8 + 1) (B ++ [x]) := by
  unfold pack
  rw [List.length_append, List.length_cons, List.length_nil, show (B.length + (0 + 1) + 7) / 8 = B.length / 8 + 1 by omega]
/-- a bit of a number -/
def bit (c k : Nat) : Nat := c / 2 ^ k % 2
theorem bit_le (c k : Nat) : bit c k ≤ 1 := by unfold bit; omega
/-- the first j bits of a code of n bits -/
def bitsOf (c n j : Nat) : List Nat := (List.range j).map fun i => bit c (n - 1 - i)
theorem bitsOf_succ (c n j : Nat) : bitsOf c n (j + 1) = bitsOf c n j ++ [bit c (n - 1 - j)] := by unfold bitsOf; rw [List.range_succ, List.map_append]; rfl
theorem bitsOf_len (c n j : Nat) : (bitsOf c n j).length = j := by unfold bitsOf; simp
def codeBits (l : List Int) (s : Int) : List Nat := bitsOf (codeOf l s).toNat (len l s).toNat (len l s).toNat
def allBits (l : List Int) (S : List Int) : List Nat := S.flatMap (codeBits l)
theorem codeBits_bits (l : List Int) (s : Int) : Bits (codeBits l s) := by
  intro x hx
  unfold codeBits bitsOf at hx
  rw [List.mem_map] at hx
  obtain ⟨i, _, rfl⟩ := hx
  exact bit_le _ _
theorem allBits_bits (l S : List Int) : Bits (allBits l S) := by
  intro x hx
  unfold allBits at hx
  rw [List.mem_flatMap] at hx
  obtain ⟨s, _, h⟩ := hx
  exact codeBits_bits l s x h
theorem Bits.append {A B : List Nat} (h : Bits A) (h2 : Bits B) : Bits (A ++ B) := fun x hx => by
  rcases List.mem_append.1 hx with h3 | h3
  · exact h x h3
  · exact h2 x h3
theorem bitsOf_bits (c n j : Nat) : Bits (bitsOf c n j) := by
  intro x hx
  unfold bitsOf at hx
  rw [List.mem_map] at hx
  obtain ⟨i, _, rfl⟩ := hx
  exact bit_le _ _
/-- a symbol that can be written -/
def has (l : List Int) (s : Int) : Prop := 0 ≤ s ∧ s < l.length ∧ len l s ≠ 0
theorem allBits_take {l S : List Int} {i : Nat} (hi : i < S.length) : allBits l (S.take (i + 1)) = allBits l (S.take i) ++ codeBits l (S.getD i 0) := by
  unfold allBits
  rw [List.take_succ_eq_append_getElem hi, List.flatMap_append, List.getD_eq_getElem?_getD, List.getElem?_eq_getElem hi]
  simp
theorem codeBits_len (l : List Int) (s : Int) : (codeBits l s).length = (len l s).toNat := bitsOf_len _ _ _
/-- free low bits: or is a sum -/
theorem or_sum {v r x : Nat} (hr : r < 8) (hv : v % 2 ^ (8 - r) = 0) (hx : x ≤ 1) : v ||| (x * 2 ^ (7 - r)) = v + x * 2 ^ (7 - r) := by
  have h1 : v = 2 ^ (8 - r) * (v / 2 ^ (8 - r)) := by have := Nat.div_add_mod v (2 ^ (8 - r)); omega
  have h2 : x * 2 ^ (7 - r) < 2 ^ (8 - r) := by
    have e : 2 ^ (8 - r) = 2 * 2 ^ (7 - r) := by rw [show 8 - r = (7 - r) + 1 by omega, Nat.pow_succ]; omega
    have h3 : x * 2 ^ (7 - r) ≤ 1 * 2 ^ (7 - r) := Nat.mul_le_mul_right _ hx
    have h4 : 0 < 2 ^ (7 - r) := Nat.two_pow_pos _
    omega
  rw [h1]
  exact (Nat.two_pow_add_eq_or_of_lt h2 _).symm
theorem packN_zero (N : Nat) (B : List Nat) : packN N (B ++ [0]) = packN N B := by
  unfold packN
  apply List.map_congr_left
  intro j _
  rw [byteAt_snoc]
  split <;> omega
theorem packN_nil (N : Nat) : packN N [] = List.replicate N 0 := by
  unfold packN
  apply List.ext_getElem?
  intro j
  rw [List.getElem?_map, List.getElem?_replicate]
  by_cases h : j < N
  · rw [List.getElem?_range h, if_pos h]; rfl
  · rw [List.getElem?_eq_none (by simpa using h), if_neg h]; rfl
end Go.Proofs.Ytbklccknohmibaa.hf
