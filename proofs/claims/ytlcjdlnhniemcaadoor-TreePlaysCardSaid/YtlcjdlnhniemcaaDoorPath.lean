/- Package path: the bytes '/' and 0 in a string: the library's IndexRune, IndexAny, ContainsAny at any bytes. No condition. -/
import Derived.Test.YtlcjdlnhniemcaaDoorMgB
import Derived.Test.YtlcjdlnhniemcaaDoorStrS
import Derived.Test.YtlcjdlnhniemcaaDoorTexts
import Derived.Test.YtlcjdlnhniemcaaDoorShelf
import Derived.Shelf.Strings.IndexAnyAll
import Derived.Laws.RangeAny
import Derived.Laws.Runes
import Derived.WalkMore
import Derived.Shelf.Small.Strs
import Derived.Deep.QuietTactic
import Derived.BigQuiet
import Derived.IntWalk
import Derived.Deep.WholeRow
import Derived.Deep.LoopGhost
namespace Go.Proofs.YtlcjdlnhniemcaaDoor
open Go.RowKit

theorem pa.span (s : ByteArray) (pos : Nat) (h : pos < s.size) (ha : 128 ≤ (s[pos]'h).toNat) :
    pos + (Utf8.decode s pos).2 ≤ s.size ∧ ∀ j, pos ≤ j → j < pos + (Utf8.decode s pos).2 → 128 ≤ (s.get! j).toNat := by
  have hn : ¬ (s[pos]'h).toNat < 128 := by omega
  have h0 : 128 ≤ (s.get! pos).toNat := by have := get_at s pos h; rw [Nat.add_zero] at this; rw [this]; exact ha
  have key : ∀ n, 1 ≤ n → n ≤ 4 → pos + n ≤ s.size → (∀ k, 1 ≤ k → k < n → (s.get! (pos + k)).toNat / 64 = 2) → pos + n ≤ s.size ∧ ∀ j, pos ≤ j → j < pos + n → 128 ≤ (s.get! j).toNat := by
    intro n h1 h4 hs hk
    refine ⟨hs, fun j hj hj2 => ?_⟩
    obtain ⟨k, rfl⟩ : ∃ k, j = pos + k := ⟨j - pos, by omega⟩
    by_cases hk0 : k = 0
    · subst hk0; exact h0
    · have := hk k (by omega) (by omega)
      omega
  have one : pos + 1 ≤ s.size ∧ ∀ j, pos ≤ j → j < pos + 1 → 128 ≤ (s.get! j).toNat := key 1 (by omega) (by omega) (by omega) (fun k h1 h2 => by omega)
  simp only [Utf8.decode, get_at s pos h, hn, if_false]
  split
  · rename_i hc
    simp only [Bool.and_eq_true, decide_eq_true_eq, beq_iff_eq] at hc
    split
    · refine key 2 (by omega) (by omega) (by omega) (fun k h1 h2 => ?_)
      obtain rfl : k = 1 := by omega
      exact hc.2.2
    · exact one
  · split
    · rename_i hc
      simp only [Bool.and_eq_true, decide_eq_true_eq, beq_iff_eq] at hc
      split
      · refine key 3 (by omega) (by omega) (by omega) (fun k h1 h2 => ?_)
        rcases (by omega : k = 1 ∨ k = 2) with rfl | rfl
        · exact hc.1.2.2
        · exact hc.2.2
      · exact one
    · split
      · rename_i hc
        simp only [Bool.and_eq_true, decide_eq_true_eq, beq_iff_eq] at hc
        split
        · refine key 4 (by omega) (by omega) (by omega) (fun k h1 h2 => ?_)
          rcases (by omega : k = 1 ∨ k = 2 ∨ k = 3) with rfl | rfl | rfl
          · exact hc.1.1.2.2
          · exact hc.1.2.2
          · exact hc.2.2
        · exact one
      · exact one
theorem pa.enc (r : Int) (h : 128 ≤ r) : ∃ (l : List UInt8) (x : UInt8), Utf8.encode r = strOf (l ++ [x]) ∧ 1 ≤ l.length ∧ l.length ≤ 3 ∧ 128 ≤ x.toNat := by
  unfold Utf8.encode
  have hc : 128 ≤ (if Utf8.valid r = true then r.toNat else Utf8.runeError) := by
    split
    · omega
    · decide
  generalize (if Utf8.valid r = true then r.toNat else Utf8.runeError) = c at *
  have hx : 128 ≤ (UInt8.ofNat (0x80 + c % 64)).toNat := by rw [UInt8.toNat_ofNat']; omega
  dsimp only
  rw [if_neg (by omega)]
  split
  · exact ⟨[_], _, rfl, by simp, by simp, hx⟩
  · split
    · exact ⟨[_, _], _, rfl, by simp, by simp, hx⟩
    · exact ⟨[_, _, _], _, rfl, by simp, by simp, hx⟩

set_option maxHeartbeats 400000 in
theorem utf8_ValidRune_any (r : Int) (w : World) : Calls Tryd.prog 94 #[.int .i32 r] w fun e w' => (∃ b, e = .returned (.bool b)) ∧ w' = w := by
  obtain ⟨b1, h1⟩ : ∃ b, decide (0 ≤ r) = b := ⟨_, rfl⟩
  obtain ⟨b2, h2⟩ : ∃ b, decide (r < 55296) = b := ⟨_, rfl⟩
  obtain ⟨b3, h3⟩ : ∃ b, decide (57343 < r) = b := ⟨_, rfl⟩
  obtain ⟨b4, h4⟩ : ∃ b, decide (r ≤ 1114111) = b := ⟨_, rfl⟩
  cases b1 <;> cases b2 <;> cases b3 <;> cases b4
  all_goals
    go_enter Tryd.func94, Tryd.ntmps94
    go_wp2
    go_ret
    exact ⟨⟨_, rfl⟩, rfl⟩

theorem str_IndexByte_none (c : Int) (w : World) : Calls Tryd.prog 93 #[.string ⟨#[]⟩, .int .u8 c] w fun e w' => e = .returned (.int .i64 (-1)) ∧ w' = w := Any.strings_IndexByte sh137 ⟨#[]⟩ c w

set_option maxRecDepth 100000 in
set_option maxHeartbeats 2000000 in
theorem str_IndexRune_hi (r : Int) (w : World) (h : 128 ≤ r) (h2 : r ≤ 2147483647) :
    Calls Tryd.prog 78 #[.string ⟨#[47, 0]⟩, .int .i32 r] w fun e w' => e = .returned (.int .i64 (-1)) ∧ Below w.heap.size w w' := by
  have d1 : decide (0 ≤ r) = true := decide_eq_true (by omega)
  have d2 : decide (r < 128) = false := decide_eq_false (by omega)
  by_cases he : r = 65533
  · subst he
    clear h h2
    go_enter Tryd.func78, Tryd.ntmps78
    go_wp2
    go_loopg [5, 6] 2 (fun g _ _ wx => ∃ i : Nat, i + g = 2 ∧ wx = w.iter ⟨#[47, 0]⟩ i)
    case atStart => exact ⟨0, rfl, rfl⟩
    case round =>
      obtain ⟨i, hig, rfl⟩ := hrel
      cases gk with
      | zero =>
        obtain rfl : i = 2 := by omega
        have hnx := run_next_end (P := Tryd.prog) w ⟨#[47, 0]⟩ 2
        go_wp2
        go_ret
        exact ⟨rfl, (Below.refl _ _).alloc (Nat.le_refl _) _⟩
      | succ g =>
        rcases (by omega : i = 0 ∨ i = 1) with rfl | rfl
        · have hnx := fun ty => run_next_ascii (P := Tryd.prog) w ⟨#[47, 0]⟩ 0 ty (by decide) (by decide)
          go_wp2
          go_roundg g
          case measure => omega
          case rel => exact ⟨1, by omega, rfl⟩
        · have hnx := fun ty => run_next_ascii (P := Tryd.prog) w ⟨#[47, 0]⟩ 1 ty (by decide) (by decide)
          go_wp2
          go_roundg g
          case measure => omega
          case rel => exact ⟨2, by omega, rfl⟩
  · have d3 : (r == 65533) = false := beq_eq_false_iff_ne.2 he
    clear h2 he
    obtain ⟨l, x, hl, hl1, hl3, hx⟩ := pa.enc r h
    have hcv : ∀ w, (convert 21 9 (.int .i32 r)).run Tryd.prog w = .ok (.string (strOf (l ++ [x]))) w := fun w => by rw [run_convert_int_string w _ _ _ _ (by kernel_rfl) Tryd.underlying9, hl]
    have hx0 : ((x.toNat : Int) == 0) = false := beq_eq_false_iff_ne.2 (by omega)
    have hx1 : ((0 : Int) == (x.toNat : Int)) = false := beq_eq_false_iff_ne.2 (by omega)
    have hlit : ∀ h, (⟨#[47, 0]⟩ : ByteArray)[1]'h = 0 := fun _ => rfl
    have hx6 : ((0 : Int) != (x.toNat : Int)) = true := bne_iff_ne.2 (by omega)
    have hx2 : decide ((0 : Int) = (x.toNat : Int)) = false := decide_eq_false (by omega)
    have hx3 : ((0 : Nat) == x.toNat) = false := beq_eq_false_iff_ne.2 (by omega)
    have hx4 : decide ((0 : Nat) = x.toNat) = false := decide_eq_false (by omega)
    have hx5 : ¬ x.toNat = 0 := by omega
    have hcut : ∀ w, (Instr.slice 9 (.string ⟨#[47, 0]⟩) (some (.int .i64 2)) none none).run Tryd.prog w = .ok (.string ⟨#[]⟩) w := fun w => run_str_from (P := Tryd.prog) 9 Tryd.underlying9 [47, 0] 2 2 rfl (by decide) w
    clear hl h
    rcases l with _ | ⟨a, _ | ⟨b, _ | ⟨c, _ | ⟨d, l⟩⟩⟩⟩
    · simp at hl1
    · change ∀ w, (convert 21 9 (.int .i32 r)).run Tryd.prog w = .ok (.string (strOf [a, x])) w at hcv
      go_enter Tryd.func78, Tryd.ntmps78
      go_wp2_with (go_at_call 94; refine (utf8_ValidRune_any r _).mono ?_; rintro e w' ⟨⟨b, rfl⟩, rfl⟩; cases b)
      · go_ret
        exact ⟨rfl, Below.refl _ _⟩
      · go_step3
        go_wp2
        go_loopw [9, 10, 11, 12] (fun s9 _ _ _ wx => s9 = .int .i64 1 ∧ wx = w') (fun _ _ _ _ _ => 0)
        case atStart => exact ⟨rfl, rfl⟩
        case round =>
          obtain ⟨rfl, rfl⟩ := hrel
          go_wp2
          go_step3
          go_wp2
          go_quiet (fail)
          go_wp2
          go_region_with (go_at_call 93; refine (str_IndexByte_none _ _).mono ?_; rintro e w9 ⟨rfl, rfl⟩)
          all_goals
            go_wp2
            simp (config := { zetaDelta := true }) only [Exit.noGoto, Exit.inBlock, Exit.then]
            go_ret
            exact ⟨rfl, (by repeat (first | (with_reducible exact Below.refl _ _) | (with_reducible assumption) | (with_reducible refine bset ?_ ?_ _) | (with_reducible refine balloc ?_ _) | (with_reducible refine Below.drew ?_) | (with_reducible refine bdrewN ?_ _) | (with_reducible refine bnext ?_ (by with_reducible assumption)) | exact Nat.le_refl _ | (simp; done) | omega | (simp; omega)))⟩
    · change ∀ w, (convert 21 9 (.int .i32 r)).run Tryd.prog w = .ok (.string (strOf [a, b, x])) w at hcv
      go_enter Tryd.func78, Tryd.ntmps78
      go_wp2_with (go_at_call 94; refine (utf8_ValidRune_any r _).mono ?_; rintro e w' ⟨⟨b, rfl⟩, rfl⟩; cases b)
      · go_ret
        exact ⟨rfl, Below.refl _ _⟩
      · go_step3
        go_wp2
        go_loopw [9, 10, 11, 12] (fun s9 _ _ _ wx => s9 = .int .i64 2 ∧ wx = w') (fun _ _ _ _ _ => 0)
        case atStart => exact ⟨rfl, rfl⟩
        case round =>
          obtain ⟨rfl, rfl⟩ := hrel
          go_wp2
          simp (config := { zetaDelta := true }) only [Exit.noGoto, Exit.inBlock, Exit.then]
          go_ret
          exact ⟨rfl, (by repeat (first | (with_reducible exact Below.refl _ _) | (with_reducible assumption) | (with_reducible refine bset ?_ ?_ _) | (with_reducible refine balloc ?_ _) | (with_reducible refine Below.drew ?_) | (with_reducible refine bdrewN ?_ _) | (with_reducible refine bnext ?_ (by with_reducible assumption)) | exact Nat.le_refl _ | (simp; done) | omega | (simp; omega)))⟩
    · change ∀ w, (convert 21 9 (.int .i32 r)).run Tryd.prog w = .ok (.string (strOf [a, b, c, x])) w at hcv
      go_enter Tryd.func78, Tryd.ntmps78
      go_wp2_with (go_at_call 94; refine (utf8_ValidRune_any r _).mono ?_; rintro e w' ⟨⟨b, rfl⟩, rfl⟩; cases b)
      · go_ret
        exact ⟨rfl, Below.refl _ _⟩
      · go_step3
        go_wp2
        go_loopw [9, 10, 11, 12] (fun s9 _ _ _ wx => s9 = .int .i64 3 ∧ wx = w') (fun _ _ _ _ _ => 0)
        case atStart => exact ⟨rfl, rfl⟩
        case round =>
          obtain ⟨rfl, rfl⟩ := hrel
          go_wp2
          simp (config := { zetaDelta := true }) only [Exit.noGoto, Exit.inBlock, Exit.then]
          go_ret
          exact ⟨rfl, (by repeat (first | (with_reducible exact Below.refl _ _) | (with_reducible assumption) | (with_reducible refine bset ?_ ?_ _) | (with_reducible refine balloc ?_ _) | (with_reducible refine Below.drew ?_) | (with_reducible refine bdrewN ?_ _) | (with_reducible refine bnext ?_ (by with_reducible assumption)) | exact Nat.le_refl _ | (simp; done) | omega | (simp; omega)))⟩
    · simp at hl3
end Go.Proofs.YtlcjdlnhniemcaaDoor
