/- Package ref: bytesOf, textOf. No condition. -/
import Derived.Test.YtcpbgiikfabaaaaMsg8
import Derived.Test.YtcpbgiikfabaaaaMake
import Derived.Test.YtcpbgiikfabaaaaRowOf
import Derived.Lib.AppendStr
namespace Go.Proofs.Ytcpbgiikfabaaaa
open Go.RowKit

theorem mg.be_len2 (n : Int) : ∀ k : Nat, (beBytes n k).length = k
  | 0 => rfl
  | k + 1 => by simp [beBytes, mg.be_len2 n k]
theorem mg.be_get (n : Int) : ∀ (k j : Nat), j < k → (beBytes n k)[j]? = some (byteOf (n / 2 ^ (8 * (k - 1 - j))))
  | 0, _, h => by omega
  | k + 1, 0, _ => by simp [beBytes]
  | k + 1, j + 1, h => by
    simp only [beBytes, List.getElem?_cons_succ]
    rw [mg.be_get n k j (by omega), show k + 1 - 1 - (j + 1) = k - 1 - j by omega]
theorem mg.be_drop (n : Int) (k j : Nat) (h : j < k) : (beBytes n k).drop j = byteOf (n / 2 ^ (8 * (k - 1 - j))) :: (beBytes n k).drop (j + 1) := by
  have h1 := mg.be_get n k j h
  have h2 : j < (beBytes n k).length := by rw [mg.be_len2]; exact h
  rw [List.drop_eq_getElem_cons h2]
  rw [List.getElem?_eq_getElem h2] at h1
  injection h1 with h1
  rw [h1]
theorem mg.set_rep (v : Value) (R : List Value) (j : Nat) : (List.replicate (j + 1) (Value.int .u8 0) ++ R).set j v = List.replicate j (Value.int .u8 0) ++ v :: R := by
  rw [List.replicate_succ', List.append_assoc, List.set_append_right _ _ (by simp)]
  simp

set_option maxHeartbeats 1000000 in
theorem ref_bytesOf (n : Int) (wide : Nat) (w : World) (hn : 0 ≤ n ∧ n ≤ 9223372036854775807) (hw : wide ≤ 8) :
    Calls Try.prog 24 #[.int .i64 n, .int .i64 wide] w fun e w' => ∃ A c, e = .returned (.slice A wide c) ∧ Own w' w.heap.size 5 1 A wide c ((beBytes n wide).map u8v) ∧ Below w.heap.size w w' := by
  have hmk := fun m hm => make_row (P := Try.prog) (i := Try.t5) (z := .int .u8 0) Try.underlying22 (by kernel_rfl) (by kernel_rfl) rfl rfl wide m hm (by show 1 * _ ≤ _; omega) (by omega)
  have hm1 := hmk wide rfl
  clear hmk
  go_enter Try.func24, Try.ntmps24
  go_wp2
  have HO : Hid (Own (w.alloc (.cells (List.replicate wide (Value.int .u8 0)).toArray 5)) w.heap.size 5 1 (some ⟨w.heap.size, 0, none⟩) wide wide (List.replicate wide (Value.int .u8 0))) :=
    Lib.hid (Own.lit w w.heap.size _ 1 wide _ (Nat.le_refl _) (by simp) (by unfold maxLen; omega))
  go_loopw [0, 6] (fun s0 s6 wr => ∃ (j : Nat) (x : Int), s6 = .int .i64 ((j : Int) - 1) ∧ s0 = .int .i64 x ∧ j ≤ wide ∧ 0 ≤ x ∧ x ≤ n ∧ Hid (x = n / 2 ^ (8 * (wide - j)))
    ∧ Hid (Own wr w.heap.size 5 1 (some ⟨w.heap.size, 0, none⟩) wide wide (List.replicate j (Value.int .u8 0) ++ ((beBytes n wide).drop j).map u8v)) ∧ Hid (Below w.heap.size w wr)) (fun _ s6 _ => ((intOf s6) + 1).toNat)
  case atStart => exact ⟨wide, n, rfl, rfl, by omega, hn.1, by omega, Lib.hid (by simp), Lib.hid (by rw [List.drop_eq_nil_of_le (by rw [mg.be_len2]; omega)]; simpa using HO.out), Lib.hid (balloc (bself w) _)⟩
  case round =>
    obtain ⟨j, x, rfl, rfl, hj, hx0, hx1, HX, HOJ, HW⟩ := hrel
    clear HO hm1
    rename World => wr
    cases j with
    | zero =>
      go_wp2
      go_ret
      exact ⟨_, _, rfl, by simpa using HOJ.out, HW.out⟩
    | succ j =>
      have hcell : (List.replicate (j + 1) (Value.int .u8 0) ++ ((beBytes n wide).drop (j + 1)).map u8v)[j]? = some (Value.int .u8 0) := by
        rw [List.getElem?_append_left (by simp)]
        simp
      obtain ⟨g, hg0, hg1, hg2, hcj⟩ := HOJ.out.cell hcell
      simp only [Option.some.injEq, Addr.mk.injEq, and_true] at hg0
      subst hg0
      have hfz := HOJ.out.frozenAt j
      clear hcell
      have e1 : (((j + 1 : Nat) : Int) - 1) = (j : Int) := by omega
      rw [e1]
      clear e1
      go_wp2
      go_roundw
      case rel =>
        refine ⟨j, x / 256, rfl, rfl, by omega, by omega, by omega, Lib.hid ?_, Lib.hid ?_, Lib.hid (bset HW.out (Nat.le_refl _) _)⟩
        · rw [HX.out, Int.ediv_ediv_of_nonneg (Int.pow_nonneg (by omega)), show 8 * (wide - j) = 8 * (wide - (j + 1)) + 8 by omega, Int.pow_add]
          rfl
        · have h1 := HOJ.out.setAt (j := j) (.int .u8 (x % 256))
          rw [mg.set_rep] at h1
          rw [mg.be_drop n wide j (by omega), List.map_cons]
          have e2 : u8v (byteOf (n / 2 ^ (8 * (wide - 1 - j)))) = .int .u8 (x % 256) := by
            rw [show wide - 1 - j = wide - (j + 1) by omega, ← HX.out]
            simp only [u8v, byteOf_toNat]
          rw [e2]
          exact h1
      case measure => simp [intOf]
theorem mg.strCells_of (l : List UInt8) : Lib.strCells (strOf l) = l.map u8v := by simp only [Lib.strCells, strOf]; rfl

set_option maxHeartbeats 1000000 in
theorem ref_textOf (l : List UInt8) (w : World) (hl : l.length ≤ 1000) :
    Calls Try.prog 26 #[.string (strOf l)] w fun e w' => ∃ A c, e = .returned (.slice A (2 + l.length) c) ∧ Own w' w.heap.size 5 1 A (2 + l.length) c ((beBytes (l.length : Int) 2 ++ l).map u8v) ∧ Below w.heap.size w w' := by
  go_enter Try.func26, Try.ntmps26
  go_wp2_with (first
    | (go_at_call 24; refine (ref_bytesOf _ 2 _ (by omega) (by omega)).mono ?_; rintro e w1 ⟨A1, c1, rfl, ho1, hb1⟩; have HO1 := Lib.hid ho1; have HB1 := Lib.hid hb1; have hs1 := hb1.size; clear ho1 hb1)
    | (at_builtin; (obtain ⟨v', w2, hr, ho2, hg2, _⟩ := Lib.run_append_own_string (P := Try.prog) w1 w.heap.size 22 9 22 5 Try.t5 Try.underlying22 Try.underlying9 (by kernel_rfl) rfl rfl rfl (.slice A1 2 c1) 2 _ HO1.out (strOf l) (by rw [strOf_size]; unfold maxLen; omega) (by rw [strOf_size]; omega) hs1); obtain ⟨A2, c2, rfl⟩ := own_shape ho2; have HR := Lib.hid hr; have HO2 := Lib.hid ho2; have HG2 := Lib.hid hg2; clear hr ho2 hg2; refine wp_run _ rfl _ _ _ _ rfl rfl rfl HR.out ?_)
    | fail)
  go_ret
  have h := HO2.out
  rw [strOf_size, mg.strCells_of] at h
  exact ⟨A2, c2, rfl, by rw [List.map_append]; exact h, HB1.out.grown HG2.out (HB1.out.size) (fun k hk => (HO1.out.lt k (by rw [← ownBlock_slice]; exact hk)).1)⟩
end Go.Proofs.Ytcpbgiikfabaaaa
