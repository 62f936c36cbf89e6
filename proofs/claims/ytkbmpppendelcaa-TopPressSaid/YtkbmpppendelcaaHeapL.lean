/- Package huff: ContainsFunc, the reference's HuffFault; a tree's lengths. No condition. -/
import Derived.Test.YtkbmpppendelcaaHeapZ
import Derived.Test.YtkbmpppendelcaaPrB
namespace Go.Proofs.Ytkbmpppendelcaa
open Go.RowKit
set_option linter.unusedSimpArgs false

/-- a count that may not be -/
def hl.out (n : Int) : Bool := decide (n < 0) || decide (1048576 < n)
def hl.bad (l : List Int) : Bool := l.any hl.out
theorem hl.bad_take {l : List Int} {k : Nat} (hk : k < l.length) : (l.take (k + 1)).any hl.out = ((l.take k).any hl.out || hl.out (l.getD k 0)) := by
  rw [List.take_add_one, List.getElem?_eq_getElem hk, List.any_append, List.getD_eq_getElem?_getD, List.getElem?_eq_getElem hk]
  simp
theorem hl.bad_of {l : List Int} {k : Nat} (hk : k < l.length) (h : hl.out (l.getD k 0) = true) : hl.bad l = true := by
  unfold hl.bad
  refine List.any_eq_true.2 ⟨l.getD k 0, ?_, h⟩
  rw [List.getD_eq_getElem?_getD, List.getElem?_eq_getElem hk]
  exact List.getElem_mem hk
theorem hl.bad_not {l : List Int} (h : hl.bad l = false) : ∀ n ∈ l, 0 ≤ n ∧ n ≤ 1048576 := fun n hn => by
  have := List.any_eq_false.1 h n hn
  unfold hl.out at this
  simp only [Bool.or_eq_true, decide_eq_true_eq] at this
  omega
set_option maxHeartbeats 400000 in
theorem huff_out (x : Int) (w : World) : Calls Try.prog 20 #[.int .i64 x] w fun e w' => e = .returned (.bool (hl.out x)) ∧ w = w' := by
  by_cases h : x < 0
  · have HE : Hid (hl.out x = true) := Lib.hid (by unfold hl.out; rw [decide_eq_true h]; rfl)
    go_enter Try.func20, Try.ntmps20
    go_wp2
    go_ret
    exact ⟨by rw [HE.out]; rfl, rfl⟩
  · have HE : Hid (hl.out x = decide (1048576 < x)) := Lib.hid (by unfold hl.out; rw [decide_eq_false h]; rfl)
    go_enter Try.func20, Try.ntmps20
    go_wp2
    go_ret
    exact ⟨by rw [HE.out]; rfl, rfl⟩
set_option maxHeartbeats 1000000 in
theorem huff_IndexFunc (l : List Int) (A : Option Addr) (c : Nat) (S : Nat → Prop) (w : World) (hl_ : SlRep Rep.int w S l A c) (hn : l.length ≤ 9223372036854775807) :
    Calls Try.prog 30 #[.slice A l.length c, .func (.func 20) #[] #[]] w fun e w' => ∃ i : Int, e = .returned (.int .i64 i) ∧ decide (0 ≤ i) = hl.bad l ∧ w = w' := by
  have HL := Lib.hid hl_
  clear hl_
  go_enter Try.func30, Try.ntmps30
  go_wp2
  go_loop [8] (fun i => ∃ k : Nat, k ≤ l.length ∧ i = .int .i64 (k : Int) ∧ Hid ((l.take k).any hl.out = false)) (fun i => l.length - (intOf i).toNat)
  case atStart => exact ⟨0, by omega, rfl, Lib.hid rfl⟩
  case round =>
    obtain ⟨k, hk, rfl, HJ⟩ := hrel
    by_cases hlt : k < l.length
    · obtain ⟨b, o, rfl, _, hc1⟩ := int_at HL.out hlt
      have hlt' : (k : Int) < (l.length : Int) := by omega
      have HO := Lib.hid (huff_out (l.getD k 0) w)
      have HB := Lib.hid (fun h : hl.out (l.getD k 0) = true => hl.bad_of hlt h)
      have HN := Lib.hid (fun h : hl.out (l.getD k 0) = false => show (l.take (k + 1)).any hl.out = false by rw [hl.bad_take hlt, HJ.out, h]; rfl)
      obtain ⟨b9, hb9⟩ : ∃ b9, hl.out (l.getD k 0) = b9 := ⟨_, rfl⟩
      rw [hb9] at HO HB HN
      clear hb9 HJ
      generalize l.getD k 0 = y at *
      cases b9 with
      | true =>
        have HB2 : Hid (hl.bad l = true) := Lib.hid (by first | exact HB.out rfl | exact HB.out trivial)
        go_wp2_with (first
          | (go_at_call 20; ((with_reducible refine HO.out.mono ?_); rintro e _ ⟨rfl, rfl⟩))
          | fail)
        go_ret
        exact ⟨(k : Int), rfl, by rw [HB2.out]; simp, rfl⟩
      | false =>
        have HN2 : Hid ((l.take (k + 1)).any hl.out = false) := Lib.hid (by first | exact HN.out rfl | exact HN.out trivial)
        go_wp2_with (first
          | (go_at_call 20; ((with_reducible refine HO.out.mono ?_); rintro e _ ⟨rfl, rfl⟩))
          | fail)
        go_round
        case rel => exact ⟨k + 1, by omega, by go_num, HN2⟩
        case measure => simp [intOf]; omega
    · obtain rfl : k = l.length := by omega
      have HE : Hid (hl.bad l = false) := Lib.hid (by have := HJ.out; rw [List.take_length] at this; exact this)
      go_wp2
      go_ret
      exact ⟨-1, rfl, by rw [HE.out]; decide, rfl⟩
set_option maxHeartbeats 400000 in
theorem huff_ContainsFunc (l : List Int) (A : Option Addr) (c : Nat) (S : Nat → Prop) (w : World) (hl_ : SlRep Rep.int w S l A c) (hn : l.length ≤ 9223372036854775807) :
    Calls Try.prog 19 #[.slice A l.length c, .func (.func 20) #[] #[]] w fun e w' => e = .returned (.bool (hl.bad l)) ∧ w = w' := by
  have HI := Lib.hid (huff_IndexFunc l A c S w hl_ hn)
  clear hl_
  generalize hl.bad l = b at *
  go_enter Try.func19, Try.ntmps19
  go_wp2_with (first
    | (go_at_call 30; ((with_reducible refine HI.out.mono ?_); rintro e _ ⟨i, rfl, hi, rfl⟩; have HIB := Lib.hid hi; clear hi))
    | fail)
  go_ret
  exact ⟨by rw [← HIB.out]; rfl, rfl⟩
def hl.fault (l : List Int) : Int := if 64 < l.length then 1 else if hl.bad l = true then 2 else 0
set_option maxHeartbeats 1000000 in
theorem ref_HuffFault (l : List Int) (A : Option Addr) (c : Nat) (S : Nat → Prop) (w : World) (hl_ : SlRep Rep.int w S l A c) (hn : l.length ≤ 9223372036854775807) :
    Calls Try.prog 13 #[.slice A l.length c] w fun e w' => e = .returned (.int .i64 (hl.fault l)) ∧ w = w' := by
  have HL := Lib.hid hl_
  clear hl_
  by_cases h64 : 64 < l.length
  · have HE : Hid (hl.fault l = 1) := Lib.hid (by unfold hl.fault; rw [if_pos h64])
    have h64' : (64 : Int) < (l.length : Int) := by omega
    go_enter Try.func13, Try.ntmps13
    go_wp2
    go_ret
    exact ⟨ret_int HE.out.symm, rfl⟩
  · have HE : Hid (hl.fault l = if hl.bad l = true then 2 else 0) := Lib.hid (by unfold hl.fault; rw [if_neg h64])
    have h64' : ¬ (64 : Int) < (l.length : Int) := by omega
    go_enter Try.func13, Try.ntmps13
    go_wp2
    go_loop [10] (fun i => ∃ k : Nat, k ≤ l.length ∧ i = .int .i64 (k : Int) ∧ Hid ((l.take k).any hl.out = false)) (fun i => l.length - (intOf i).toNat)
    case atStart => exact ⟨0, by omega, rfl, Lib.hid rfl⟩
    case round =>
      obtain ⟨k, hk, rfl, HJ⟩ := hrel
      by_cases hlt : k < l.length
      · obtain ⟨b, o, rfl, _, hc1⟩ := int_at HL.out hlt
        have hlt' : (k : Int) < (l.length : Int) := by omega
        by_cases h1 : l.getD k 0 < 0
        · have HF : Hid (hl.fault l = 2) := Lib.hid (by rw [HE.out, if_pos (hl.bad_of hlt (by unfold hl.out; rw [decide_eq_true h1]; rfl))])
          clear HJ HE
          generalize l.getD k 0 = y at *
          go_wp2
          go_ret
          exact ⟨ret_int HF.out.symm, rfl⟩
        · by_cases h2 : 1048576 < l.getD k 0
          · have HF : Hid (hl.fault l = 2) := Lib.hid (by rw [HE.out, if_pos (hl.bad_of hlt (by unfold hl.out; rw [decide_eq_true h2, Bool.or_true]))])
            clear HJ HE
            generalize l.getD k 0 = y at *
            go_wp2
            go_ret
            exact ⟨ret_int HF.out.symm, rfl⟩
          · have HN2 : Hid ((l.take (k + 1)).any hl.out = false) := Lib.hid (by rw [hl.bad_take hlt, HJ.out]; unfold hl.out; rw [decide_eq_false h1, decide_eq_false h2]; rfl)
            clear HJ
            generalize l.getD k 0 = y at *
            go_wp2
            go_round
            case rel => exact ⟨k + 1, by omega, by go_num, HN2⟩
            case measure => simp [intOf]; omega
      · obtain rfl : k = l.length := by omega
        have HF : Hid (hl.fault l = 0) := Lib.hid (by rw [HE.out]; have := HJ.out; rw [List.take_length] at this; unfold hl.bad; rw [this]; rfl)
        go_wp2
        go_ret
        exact ⟨ret_int HF.out.symm, rfl⟩
end Go.Proofs.Ytkbmpppendelcaa
