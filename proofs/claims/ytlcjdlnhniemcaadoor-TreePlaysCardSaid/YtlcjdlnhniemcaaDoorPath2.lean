/- Package path: '/' and 0 in a string: strings.IndexAny, ContainsAny. No condition. -/
import Derived.Test.YtlcjdlnhniemcaaDoorPath
import Derived.Lib.OthersKept
namespace Go.Proofs.YtlcjdlnhniemcaaDoor
open Go.RowKit

/-- neither '/' nor 0 -/
def pa.okB (b : UInt8) : Bool := !(b == 0) && !(b == 47)
def pa.free (s : List UInt8) : Bool := s.all pa.okB
theorem pa.okB_iff (b : UInt8) : pa.okB b = true ↔ b ≠ 0 ∧ b ≠ 47 := by simp [pa.okB]
theorem pa.okB_hi {b : UInt8} (h : 128 ≤ b.toNat) : pa.okB b = true := by
  rw [pa.okB_iff]
  constructor
  · rintro rfl; simp at h
  · rintro rfl; simp at h
theorem pa.index_free (s : List UInt8) : 0 ≤ Lib.indexAny s [47, 0] ↔ pa.free s = false := by
  induction s with
  | nil => simp [Lib.indexAny, pa.free]
  | cons b t ih =>
    have hge := Lib.indexAny_ge [47, 0] t
    unfold pa.free at ih ⊢
    rw [Lib.indexAny, List.all_cons]
    have hc : ([47, 0] : List UInt8).contains b = !(pa.okB b) := by
      simp only [List.contains_cons, List.contains_nil, Bool.or_false, pa.okB, Bool.not_and, Bool.not_not]
      rw [Bool.or_comm]
    rw [hc]
    cases pa.okB b with
    | false => simp
    | true =>
      simp only [Bool.not_true, Bool.false_eq_true, if_false, Bool.true_and]
      rw [← ih]
      split
      · rename_i h1
        rw [beq_iff_eq] at h1
        constructor <;> intro h <;> omega
      · rename_i h1
        rw [beq_iff_eq] at h1
        constructor <;> intro h <;> omega
theorem pa.index_le (s : List UInt8) : Lib.indexAny s [47, 0] ≤ s.length := by
  induction s with
  | nil => simp [Lib.indexAny]
  | cons b t ih =>
    rw [Lib.indexAny, List.length_cons]
    split
    · omega
    · split <;> omega
theorem pa.free_take {s : List UInt8} {i : Nat} (h : pa.free (s.take i) = true) (hi : s.length ≤ i) : pa.free s = true := by rwa [List.take_of_length_le hi] at h
theorem pa.free_not {s : List UInt8} {i : Nat} (hi : i < s.length) (h : pa.okB (s.getD i 0) = false) : pa.free s = false := by
  unfold pa.free
  rw [List.all_eq_false]
  exact ⟨s.getD i 0, by rw [List.getD_eq_getElem?_getD, List.getElem?_eq_getElem hi]; exact List.getElem_mem hi, by rw [h]; simp⟩
theorem pa.free_on {s : List UInt8} {i n : Nat} (h : pa.free (s.take i) = true) (hn : ∀ j, i ≤ j → j < i + n → pa.okB (s.getD j 0) = true) : pa.free (s.take (i + n)) = true := by
  unfold pa.free at *
  rw [List.all_eq_true] at *
  intro b hb
  obtain ⟨j, hj, rfl⟩ := List.mem_iff_getElem.1 hb
  rw [List.length_take] at hj
  rcases Nat.lt_or_ge j i with h1 | h1
  · refine h _ ?_
    rw [List.getElem_take]
    exact List.mem_take_iff_getElem.2 ⟨j, by omega, rfl⟩
  · have := hn j h1 (by omega)
    rw [List.getD_eq_getElem?_getD, List.getElem?_eq_getElem (by omega : j < s.length)] at this
    rw [List.getElem_take]
    exact this

def pa.IdxRes (s : List UInt8) (w : World) (e : Ending) (w' : World) : Prop := (∃ n : Int, e = .returned (.int .i64 n) ∧ -1 ≤ n ∧ n ≤ 9223372036854775807 ∧ (0 ≤ n ↔ pa.free s = false)) ∧ Below w.heap.size w w'
theorem pa.IdxRes.mk {s : List UInt8} {w w' : World} {e : Ending} (n : Int) (h : e = .returned (.int .i64 n)) (h1 : -1 ≤ n ∧ n ≤ 9223372036854775807) (h2 : 0 ≤ n ↔ pa.free s = false) (hb : Below w.heap.size w w') : pa.IdxRes s w e w' := ⟨⟨n, h, h1.1, h1.2, h2⟩, hb⟩

theorem pa.set_info : (Tryd.prog.info? 126).map (fun i => (i.zero, i.size)) = some (some (.agg (Array.replicate 256 (.bool false))), 256) := by kernel_rfl

theorem pa.below_iter {B k : Nat} (w : World) (s : ByteArray) (p : Nat) (h : B ≤ k) : Below B w (w.iterAt k s p) := by
  refine ⟨rfl, rfl, rfl, by simp [World.iterAt], fun b hb => ?_⟩
  have hne : k ≠ b := by omega
  simp [World.iterAt, Array.getElem?_setIfInBounds_ne hne]
theorem pa.getD_get {s : List UInt8} {i : Nat} (hi : i < s.length) (hi' : i < (strOf s).size) : (strOf s)[i]'hi' = s.getD i 0 := by
  rw [strOf_get, List.getD_eq_getElem?_getD, List.getElem?_eq_getElem hi]
  rfl
theorem pa.next_hi {w : World} {B i : Nat} {s : List UInt8} (hk : w.heap[B]? = some (.stringIter (strOf s) i)) (hi : i < s.length) (hx : 128 ≤ (s.getD i 0).toNat) :
    ∃ r wd : Nat, 128 ≤ r ∧ r ≤ 2147483647 ∧ 1 ≤ wd ∧ i + wd ≤ s.length ∧ (∀ j, i ≤ j → j < i + wd → pa.okB (s.getD j 0) = true) ∧
      ∀ ty, (Instr.next (.pointer (some ⟨B, 0, none⟩)) true ty).run Tryd.prog w = .ok (.tuple #[.bool true, .int .i64 i, .int .i32 r]) (w.iterAt B (strOf s) (i + wd)) := by
  have hi' : i < (strOf s).size := by rw [strOf_size]; exact hi
  have ha : 128 ≤ ((strOf s)[i]'hi').toNat := by rw [pa.getD_get hi]; omega
  have h1 := decode_high (strOf s) i hi' ha
  have h2 := decode_le (strOf s) i
  have h3 := pa.span (strOf s) i hi' ha
  rw [strOf_size] at h3
  refine ⟨_, _, h1.1, h2, h1.2, h3.1, fun j hj hj2 => ?_, fun ty => Lib.run_next_any_at w B (strOf s) i ty hk hi'⟩
  have h4 := h3.2 j hj hj2
  refine pa.okB_hi ?_
  have hjs : j < s.length := by omega
  have h5 : (strOf s).get! j = s.getD j 0 := by
    rw [List.getD_eq_getElem?_getD, List.getElem?_eq_getElem hjs]
    simp [strOf, ByteArray.get!, hjs]
  rwa [h5] at h4
theorem str_IndexRune_lo (x : UInt8) (w : World) (h : x.toNat < 128) : Calls Tryd.prog 78 #[.string ⟨#[47, 0]⟩, .int .i32 (x.toNat : Int)] w fun e w' => (∃ n : Int, e = .returned (.int .i64 n) ∧ (0 ≤ n ↔ pa.okB x = false)) ∧ w' = w := by
  refine (Any.strings_IndexRune_ascii { sh150 with } ⟨#[47, 0]⟩ (x.toNat : Int) w (by omega) (by omega)).mono ?_
  rintro e w' ⟨he, hw⟩
  refine ⟨⟨_, he, ?_⟩, hw⟩
  have e1 : ((x.toNat : Int)).toNat.toUInt8 = x := by simp
  rw [e1]
  show 0 ≤ Lib.indexByte [47, 0] x ↔ _
  rw [← Bool.not_eq_true, pa.okB_iff]
  by_cases h1 : x = 47
  · subst h1; decide
  · by_cases h2 : x = 0
    · subst h2; decide
    · have e2 : Lib.indexByte [47, 0] x = -1 := by
        have b1 : ((47 : UInt8) == x) = false := beq_eq_false_iff_ne.2 (fun e => h1 e.symm)
        have b2 : ((0 : UInt8) == x) = false := beq_eq_false_iff_ne.2 (fun e => h2 e.symm)
        simp [Lib.indexByte, b1, b2]
      rw [e2]
      simp [h1, h2]

set_option maxRecDepth 100000 in
set_option maxHeartbeats 2000000 in
theorem str_IndexAny_short (s : List UInt8) (w : World) (h8 : s.length ≤ 8) :
    Calls Tryd.prog 61 #[.string (strOf s), .string ⟨#[47, 0]⟩] w (pa.IdxRes s w) := by
  have h8z : decide ((8 : Int) < (s.length : Int)) = false := decide_eq_false (by omega)
  go_enter Tryd.func61, Tryd.ntmps61
  go_wp2_with (go_at_call 79; refine (Any.strings_shouldUseASCIISet { sh150 with } _ _).mono ?_; rintro e w' ⟨rfl, rfl⟩; rw [h8z])
  go_loopg [9, 10] s.length (fun g _ _ wx => ∃ i : Nat, i + g = s.length ∧ Hid (wx.heap[w'.heap.size]? = some (.stringIter (strOf s) i) ∧ Below w'.heap.size w' wx) ∧ Hid (pa.free (s.take i) = true))
  case atStart => exact ⟨0, by omega, Lib.hid ⟨World.iter_heap _ _ _, (Below.refl _ _).alloc (Nat.le_refl _) _⟩, Lib.hid rfl⟩
  case round =>
    obtain ⟨i, hig, HW, HF⟩ := hrel
    rename World => wr
    cases gk with
    | zero =>
      obtain rfl : i = s.length := by omega
      have hnx := fun ty => Lib.run_next_end_at (P := Tryd.prog) wr w'.heap.size (strOf s) s.length ty HW.out.1 (by rw [strOf_size]; omega)
      have HF2 := Lib.hid (pa.free_take HF.out (Nat.le_refl _))
      go_wp2
      go_ret
      exact pa.IdxRes.mk (-1) rfl (by omega) ⟨fun h => by omega, fun h => by rw [HF2.out] at h; cases h⟩ HW.out.2
    | succ g =>
      have hi : i < s.length := by omega
      by_cases hx : (s.getD i 0).toNat < 128
      · obtain ⟨x, hxe⟩ : ∃ x, x = s.getD i 0 := ⟨_, rfl⟩
        have hi' : i < (strOf s).size := by rw [strOf_size]; exact hi
        have hnx := fun ty => Lib.run_next_ascii_at (P := Tryd.prog) wr w'.heap.size (strOf s) i ty HW.out.1 hi' (by rw [pa.getD_get hi]; exact hx)
        rw [pa.getD_get hi, ← hxe] at hnx
        have hb2 := HW.out.2.trans (pa.below_iter (B := w'.heap.size) wr (strOf s) (i + 1) (Nat.le_refl _))
        have hit := Lib.iterAt_heap wr w'.heap.size (strOf s) i (i + 1) HW.out.1
        have HX := Lib.hid hxe
        rw [← hxe] at hx
        generalize wr.iterAt w'.heap.size (strOf s) (i + 1) = w2 at *
        have HW2 := Lib.hid (And.intro hit hb2)
        clear hxe hb2 hit hi'
        cases hok : pa.okB x with
        | true =>
          have HF2 := Lib.hid (pa.free_on (n := 1) HF.out (fun j h1 h2 => by obtain rfl : j = i := by omega
                                                                             rw [← HX.out]; exact hok))
          go_wp2_with (go_at_call 78; refine (str_IndexRune_lo x _ hx).mono ?_; rintro e w5 ⟨⟨n, rfl, hn⟩, rfl⟩; have hn2 : n < 0 := Int.not_le.1 (fun h => by rw [hok] at hn; exact absurd (hn.1 h) (by simp)); have hn3 : decide (n ≥ 0) = false := decide_eq_false (by omega); have hn4 : decide (0 ≤ n) = false := decide_eq_false (by omega); clear hn)
          go_roundg g
          case measure => omega
          case rel => exact ⟨i + 1, by omega, HW2, HF2⟩
        | false =>
          have HF2 := Lib.hid (pa.free_not hi (by rw [← HX.out]; exact hok))
          go_wp2_with (go_at_call 78; refine (str_IndexRune_lo x _ hx).mono ?_; rintro e w5 ⟨⟨n, rfl, hn⟩, rfl⟩; have hn2 : 0 ≤ n := hn.2 hok; have hn3 : decide (n ≥ 0) = true := decide_eq_true hn2; have hn4 : decide (0 ≤ n) = true := decide_eq_true hn2; clear hn)
          go_ret
          exact pa.IdxRes.mk i rfl (by omega) ⟨fun _ => HF2.out, fun _ => by omega⟩ HW2.out.2
      · obtain ⟨r, wd, hr1, hr2, hw1, hw2, hby, hnx⟩ := pa.next_hi HW.out.1 hi (Nat.le_of_not_lt hx)
        have hb2 := HW.out.2.trans (pa.below_iter (B := w'.heap.size) wr (strOf s) (i + wd) (Nat.le_refl _))
        have hit := Lib.iterAt_heap wr w'.heap.size (strOf s) i (i + wd) HW.out.1
        generalize wr.iterAt w'.heap.size (strOf s) (i + wd) = w2 at *
        have HW2 := Lib.hid (And.intro hit hb2)
        have HF2 := Lib.hid (pa.free_on HF.out hby)
        clear hby hx hb2 hit
        go_wp2_with (go_at_call 78; refine (str_IndexRune_hi (r : Int) _ (by omega) (by omega)).mono ?_; rintro e w5 ⟨rfl, hb5⟩)
        go_roundg (s.length - (i + wd))
        case measure => omega
        case rel => exact ⟨i + wd, by omega, Lib.hid ⟨(hb5.block _ (Array.getElem?_eq_some_iff.1 HW2.out.1).1).trans HW2.out.1, bnext HW2.out.2 hb5⟩, HF2⟩

theorem str_IndexAny_any (s : List UInt8) (w : World) (hs : s.length ≤ 4294967280) :
    Calls Tryd.prog 61 #[.string (strOf s), .string ⟨#[47, 0]⟩] w (pa.IdxRes s w) := by
  by_cases h8 : s.length ≤ 8
  · exact str_IndexAny_short s w h8
  · refine (Any.strings_IndexAny_long { sh150 with } (zero_of_info pa.set_info).1 (zero_of_info pa.set_info).2 (strOf s) ⟨#[47, 0]⟩ w (by decide) (by rw [strOf_size]; omega) (by rw [strOf_size]; omega) (by decide) (fun j b hb => ?_)).mono ?_
    · change ([47, 0] : List UInt8)[j]? = some b at hb
      rcases j with _ | _ | j
      · simp at hb; subst hb; decide
      · simp at hb; subst hb; decide
      · simp at hb
    · rintro e w' ⟨he, hw⟩
      have e1 : (strOf s).data.toList = s := by simp [strOf]
      rw [e1] at he
      refine pa.IdxRes.mk _ he ⟨Lib.indexAny_ge _ _, ?_⟩ (pa.index_free s) (by rw [hw]; exact ((Below.refl _ _).alloc (Nat.le_refl _) _).alloc (by simp) _)
      have := pa.index_le s
      show Lib.indexAny s [47, 0] ≤ _
      omega
set_option maxHeartbeats 400000 in
theorem str_ContainsAny_any (s : List UInt8) (w : World) (hs : s.length ≤ 4294967280) :
    Calls Tryd.prog 52 #[.string (strOf s), .string ⟨#[47, 0]⟩] w fun e w' => e = .returned (.bool (! pa.free s)) ∧ Below w.heap.size w w' := by
  have HC := Lib.hid (str_IndexAny_any s w hs)
  go_enter Tryd.func52, Tryd.ntmps52
  go_wp2_with (go_at_call 61; refine HC.out.mono ?_; rintro e w2 ⟨⟨n, rfl, h1, h2, h3⟩, hb2⟩)
  go_ret
  refine ⟨?_, hb2⟩
  rw [show (!pa.free s) = decide (0 ≤ n) from ?_]
  · rfl
  · cases h : pa.free s with
    | true => exact (decide_eq_false (fun h4 => by rw [h] at h3; exact absurd (h3.1 h4) (by simp))).symm
    | false => exact (decide_eq_true (h3.2 h)).symm
end Go.Proofs.YtlcjdlnhniemcaaDoor
