/- The plain law of TopSealed: a segment's bytes, its window changed and its sum mended. No program in sight. No condition. -/
import Derived.Test.YtedbidblnjajdaaSegD
namespace Go.Proofs.Ytedbidblnjajdaa.sg

def wt (i : Nat) : Int := if i % 2 = 0 then 256 else 1
theorem sumTo_succ (l : List UInt8) (k : Nat) : sumTo l (k + 1) = sumTo l k + wt k * byteAt l k := by
  unfold wt byteAt
  show sumTo l k + _ = _
  split <;> simp
theorem sumTo_set (l : List UInt8) (i : Nat) (v : UInt8) (hi : i < l.length) (n : Nat) : sumTo (l.set i v) n = sumTo l n + (if i < n then wt i * ((v.toNat : Int) - byteAt l i) else 0) := by
  induction n with
  | zero => rfl
  | succ n ih =>
    rw [sumTo_succ, sumTo_succ, ih]
    by_cases h : i = n
    · subst h
      have e : byteAt (l.set i v) i = v.toNat := by
        unfold byteAt
        rw [List.getD_eq_getElem?_getD, List.getElem?_set_self hi]
        rfl
      rw [e, if_neg (by omega), if_pos (by omega), Int.mul_sub]
      omega
    · have e : byteAt (l.set i v) n = byteAt l n := by
        unfold byteAt
        rw [List.getD_eq_getElem?_getD, List.getElem?_set_ne h, ← List.getD_eq_getElem?_getD]
      rw [e]
      by_cases h2 : i < n
      · rw [if_pos h2, if_pos (by omega)]; omega
      · rw [if_neg h2, if_neg (by omega)]; omega
theorem sumTo_ge (l : List UInt8) (i n : Nat) (h : i < n) : wt i * byteAt l i ≤ sumTo l n := by
  induction n with
  | zero => omega
  | succ n ih =>
    rw [sumTo_succ]
    have h0 := (sumTo_bd l n).1
    have h1 := byteAt_bd l n
    have hw : 0 ≤ wt n * byteAt l n := Int.mul_nonneg (by unfold wt; split <;> omega) h1.1
    by_cases e : i = n
    · subst e; omega
    · have := ih (by omega); omega
theorem foldOf_again (n : Int) (h : 0 < n) : foldOf (n + 65535) = foldOf n := by unfold foldOf; split <;> split <;> omega

/-- the segment -/
def mk (a b c : Int) (d : List UInt8) : Segment := { seq := a, ack := b, window := c, syn := false, fin := false, rst := false, acks := true, sacks := [], data := d }
def Fits (a b c : Int) (d : List UInt8) : Prop := (0 ≤ a ∧ a < 65536) ∧ (0 ≤ b ∧ b < 65536) ∧ (0 ≤ c ∧ c < 65536) ∧ d.length ≤ 64
theorem mk_fault {a b c : Int} {d : List UInt8} (h : Fits a b c d) : fault (mk a b c d) = 0 := by
  obtain ⟨h1, h2, h3, h4⟩ := h
  unfold fault
  rw [if_neg (by unfold bad1 mk; dsimp only; omega), if_neg (by unfold mk; dsimp only [List.length_nil]; omega), if_neg (by simp [mk]), if_neg (by simp [bad4, mk])]
theorem mk_bare (a b c : Int) (d : List UInt8) : bare (mk a b c d) = byteOf (a / 256) :: byteOf a :: byteOf (b / 256) :: byteOf b :: byteOf (c / 256) :: byteOf c :: 8 :: 0 :: 0 :: 0 :: d := by
  have e1 : byteOf (flagsOf (mk a b c d)) = 8 := by rfl
  have e2 : byteOf ((mk a b c d).sacks.length : Int) = 0 := by rfl
  show two a ++ two b ++ two c ++ [byteOf (flagsOf (mk a b c d)), byteOf ((mk a b c d).sacks.length : Int), 0, 0] ++ [] ++ d = _
  rw [e1, e2]
  rfl
def bytes (a b c : Int) (d : List UInt8) : List UInt8 := summed (bare (mk a b c d))
theorem enc_mk {a b c : Int} {d : List UInt8} (h : Fits a b c d) : enc (mk a b c d) = .ok (bytes a b c d) := if_pos (mk_fault h)
theorem bytes_length (a b c : Int) (d : List UInt8) : (bytes a b c d).length = 10 + d.length := by
  unfold bytes summed
  rw [List.length_set, List.length_set, mk_bare]
  simp
  omega
theorem two_back (x : Int) (h : 0 ≤ x ∧ x < 65536) : ((byteOf (x / 256)).toNat : Int) * 256 + ((byteOf x).toNat : Int) = x := by
  rw [byteOf_toNat, byteOf_toNat]
  omega
theorem bytes_eq (a b c : Int) (d : List UInt8) : bytes a b c d = byteOf (a / 256) :: byteOf a :: byteOf (b / 256) :: byteOf b :: byteOf (c / 256) :: byteOf c :: 8 :: 0 :: byteOf (sumOf (bare (mk a b c d)) / 256) :: byteOf (sumOf (bare (mk a b c d))) :: d := by
  unfold bytes summed
  generalize sumOf (bare (mk a b c d)) = x
  rw [mk_bare]
  rfl
theorem sum16 (l : List UInt8) : 0 ≤ sumOf l ∧ sumOf l < 65536 := by have := sumOf_bd l; omega
theorem bytes_sum (a b c : Int) (d : List UInt8) : w16 (bytes a b c d) 8 = sumOf (bare (mk a b c d)) := by
  have := two_back _ (sum16 (bare (mk a b c d)))
  rw [bytes_eq]
  exact this
theorem bytes_blank (a b c : Int) (d : List UInt8) : blank (bytes a b c d) = bare (mk a b c d) := by
  rw [bytes_eq, mk_bare]
  rfl
theorem flag_8 {l : List UInt8} (h : byteAt l 6 = 8) : flagAt l 1 = false ∧ flagAt l 2 = false ∧ flagAt l 4 = false ∧ flagAt l 8 = true := by
  unfold flagAt
  rw [h]
  decide
theorem dec_bytes {a b c : Int} {d : List UInt8} (h : Fits a b c d) : dec (bytes a b c d) = .ok (mk a b c d) := by
  have hs : segOf (bytes a b c d) = mk a b c d := by
    obtain ⟨h1, h2, h3, _⟩ := h
    have e1 := two_back a h1
    have e2 := two_back b h2
    have e3 := two_back c h3
    rw [bytes_eq]
    unfold segOf
    have k1 : w16 (byteOf (a / 256) :: byteOf a :: byteOf (b / 256) :: byteOf b :: byteOf (c / 256) :: byteOf c :: 8 :: 0 :: byteOf (sumOf (bare (mk a b c d)) / 256) :: byteOf (sumOf (bare (mk a b c d))) :: d) 0 = a := e1
    have k2 : w16 (byteOf (a / 256) :: byteOf a :: byteOf (b / 256) :: byteOf b :: byteOf (c / 256) :: byteOf c :: 8 :: 0 :: byteOf (sumOf (bare (mk a b c d)) / 256) :: byteOf (sumOf (bare (mk a b c d))) :: d) 2 = b := e2
    have k3 : w16 (byteOf (a / 256) :: byteOf a :: byteOf (b / 256) :: byteOf b :: byteOf (c / 256) :: byteOf c :: 8 :: 0 :: byteOf (sumOf (bare (mk a b c d)) / 256) :: byteOf (sumOf (bare (mk a b c d))) :: d) 4 = c := e3
    obtain ⟨f1, f2, f3, f4⟩ := flag_8 (l := byteOf (a / 256) :: byteOf a :: byteOf (b / 256) :: byteOf b :: byteOf (c / 256) :: byteOf c :: 8 :: 0 :: byteOf (sumOf (bare (mk a b c d)) / 256) :: byteOf (sumOf (bare (mk a b c d))) :: d) rfl
    rw [k1, k2, k3, f1, f2, f3, f4]
    rfl
  have hc : count (bytes a b c d) = 0 := by rw [bytes_eq]; rfl
  have h6 : byteAt (bytes a b c d) 6 = 8 := by rw [bytes_eq]; rfl
  unfold dec
  rw [if_neg (by rw [bytes_length]; omega), bytes_blank, bytes_sum, if_neg (fun e => e rfl), hc, h6, if_neg (by rw [bytes_length]; omega), hs, if_neg (fun e => e (mk_fault h))]
theorem bytes_fold (a b c : Int) (d : List UInt8) : foldOf (sumTo (bytes a b c d) (bytes a b c d).length) = 65535 := by
  have hl : (bare (mk a b c d)).length = 10 + d.length := by rw [mk_bare]; simp; omega
  have h1 := two_back _ (sum16 (bare (mk a b c d)))
  have h2 := (sumTo_bd (bare (mk a b c d)) (bare (mk a b c d)).length).1
  have e8 : byteAt (bare (mk a b c d)) 8 = 0 := by rw [mk_bare]; rfl
  have e9 : byteAt ((bare (mk a b c d)).set 8 (byteOf (sumOf (bare (mk a b c d)) / 256))) 9 = 0 := by
    generalize sumOf (bare (mk a b c d)) = x
    rw [mk_bare]; rfl
  unfold bytes summed
  rw [List.length_set, List.length_set, sumTo_set _ 9 _ (by rw [List.length_set]; omega), sumTo_set _ 8 _ (by omega), if_pos (by omega), if_pos (by omega), e8, e9]
  have hs : sumOf (bare (mk a b c d)) = 65535 - foldOf (sumTo (bare (mk a b c d)) (bare (mk a b c d)).length) := rfl
  have hb := foldOf_bd _ h2
  have ht := foldOf_fold (sumTo (bare (mk a b c d)) (bare (mk a b c d)).length) (sumOf (bare (mk a b c d))) h2 (sum16 _).1
  rw [show wt 8 = 256 from rfl, show wt 9 = 1 from rfl]
  rw [show sumTo (bare (mk a b c d)) (bare (mk a b c d)).length + 256 * (((byteOf (sumOf (bare (mk a b c d)) / 256)).toNat : Int) - 0) + 1 * (((byteOf (sumOf (bare (mk a b c d)))).toNat : Int) - 0) = sumTo (bare (mk a b c d)) (bare (mk a b c d)).length + sumOf (bare (mk a b c d)) by omega, ← ht, hs]
  rw [show foldOf (sumTo (bare (mk a b c d)) (bare (mk a b c d)).length) + (65535 - foldOf (sumTo (bare (mk a b c d)) (bare (mk a b c d)).length)) = 65535 by omega]
  rfl
/-- the sum as layer 2 mends it -/
theorem mended {a b c v : Int} {d : List UInt8} (h : Fits a b c d) (hv : 0 ≤ v ∧ v < 65536) : 65535 - foldOf (65535 - w16 (bytes a b c d) 8 + 65535 - c + v) = sumOf (bare (mk a b v d)) := by
  obtain ⟨_, _, hc, _⟩ := h
  rw [bytes_sum]
  have h2 := (sumTo_bd (bare (mk a b c d)) (bare (mk a b c d)).length).1
  have hl : ∀ z, (bare (mk a b z d)).length = 10 + d.length := fun z => by rw [mk_bare]; simp; omega
  have e : bare (mk a b v d) = ((bare (mk a b c d)).set 4 (byteOf (v / 256))).set 5 (byteOf v) := by rw [mk_bare, mk_bare]; rfl
  have e4 : byteAt (bare (mk a b c d)) 4 = (byteOf (c / 256)).toNat := by rw [mk_bare]; rfl
  have e5 : byteAt ((bare (mk a b c d)).set 4 (byteOf (v / 256))) 5 = (byteOf c).toNat := by rw [mk_bare]; rfl
  have hS : sumTo (bare (mk a b v d)) (bare (mk a b v d)).length = sumTo (bare (mk a b c d)) (bare (mk a b c d)).length - c + v := by
    have k1 := two_back c hc
    have k2 := two_back v hv
    rw [hl v, hl c, e, sumTo_set _ 5 _ (by rw [List.length_set, hl]; omega), sumTo_set _ 4 _ (by rw [hl]; omega), if_pos (by omega), if_pos (by omega), e4, e5]
    simp only [wt]
    rw [if_pos (by decide), if_neg (by decide)]
    omega
  have hpos : 0 < sumTo (bare (mk a b v d)) (bare (mk a b v d)).length := by
    have := sumTo_ge (bare (mk a b v d)) 6 (bare (mk a b v d)).length (by rw [hl]; omega)
    have e6 : byteAt (bare (mk a b v d)) 6 = 8 := by rw [mk_bare]; rfl
    rw [e6] at this
    simp only [wt] at this
    rw [if_pos (by decide)] at this
    omega
  have hf := foldOf_again _ hpos
  rw [hS] at hf
  have ht := foldOf_fold (sumTo (bare (mk a b c d)) (bare (mk a b c d)).length) (65535 - c + v) h2 (by omega)
  unfold sumOf
  rw [hS, ← hf, show sumTo (bare (mk a b c d)) (bare (mk a b c d)).length - c + v + 65535 = sumTo (bare (mk a b c d)) (bare (mk a b c d)).length + (65535 - c + v) by omega, ← ht]
  congr 2
  omega
theorem bytes_set {a b c v : Int} {d : List UInt8} : ((((bytes a b c d).set 4 (byteOf (v / 256))).set 5 (byteOf v)).set 8 (byteOf (sumOf (bare (mk a b v d)) / 256))).set 9 (byteOf (sumOf (bare (mk a b v d)))) = bytes a b v d := by
  rw [bytes_eq, bytes_eq]
  rfl
end Go.Proofs.Ytedbidblnjajdaa.sg
