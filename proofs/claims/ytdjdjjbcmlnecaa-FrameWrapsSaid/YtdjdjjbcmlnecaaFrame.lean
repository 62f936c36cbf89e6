/- Package frame: Put, Wrap and the reference; equal lists of bytes; the walk of the law FrameWraps. No condition. -/
import Derived.Test.YtdjdjjbcmlnecaaOwn
import Derived.LoopTactic
import Derived.Deep.QuietTactic
import Derived.BigQuiet
namespace Go.Proofs.Ytdjdjjbcmlnecaa
open Go.RowKit

theorem elemU8 : ElemT Try.prog 37 5 1 1 := ElemT.of Try.underlying37 (z := .int .u8 0) (by kernel_rfl) rfl (by decide)

def u8v (b : UInt8) : Value := .int .u8 (b.toNat : Int)
/-- a number's lowest byte -/
def byteOf (x : Int) : UInt8 := UInt8.ofNat (x % 256).toNat
theorem byteOf_toNat (x : Int) : ((byteOf x).toNat : Int) = x % 256 := by
  unfold byteOf
  rw [UInt8.toNat_ofNat']
  omega
/-- a number in so many bytes, the highest one first -/
def beBytes (n : Int) : Nat → List UInt8
  | 0 => []
  | k + 1 => byteOf (n / 2 ^ (8 * k)) :: beBytes n k

set_option maxHeartbeats 400000 in
theorem frame_Put (base : Nat) (A : Option Addr) (m c : Nat) (xs : List Value) (wide : Nat) (n : Int) (w : World) (hown : Own w base 5 1 A m c xs) (hbase : base ≤ w.heap.size) (hw : wide ≤ 8) (_hn : 0 ≤ n) (_hn2 : n ≤ 9223372036854775807) (hm : m ≤ 1073741824) :
    Calls Try.prog 44 #[.slice A m c, .int .i64 wide, .int .i64 n] w fun e w' => ∃ A' c', e = .returned (.slice A' (m + wide) c') ∧ Own w' base 5 1 A' (m + wide) c' (xs ++ (beBytes n wide).map u8v) ∧ Grew w w' A A' := by
  have HO := Lib.hid hown
  clear hown
  go_enter Try.func44, Try.ntmps44
  go_wp2
  go_loopw [0, 7] (fun b i wr => ∃ (k : Nat) (A' : Option Addr) (c' : Nat), k ≤ wide ∧ i = .int .i64 ((k : Int) - 1) ∧ b = .slice A' (m + (wide - k)) c' ∧ Hid (∃ done : List UInt8, done ++ beBytes n k = beBytes n wide ∧ Own wr base 5 1 A' (m + (wide - k)) c' (xs ++ done.map u8v)) ∧ Grew w wr A A') (fun _ i _ => (intOf i + 1).toNat)
  case atStart => exact ⟨wide, A, c, Nat.le_refl _, rfl, by rw [Nat.sub_self]; rfl, Lib.hid ⟨[], rfl, by simpa using HO.out⟩, Grew.refl _ _⟩
  case round =>
    obtain ⟨k, A', c', hk, rfl, rfl, HD, hg⟩ := hrel
    by_cases hlt : 0 < k
    · obtain ⟨j, rfl⟩ : ∃ j, k = j + 1 := ⟨k - 1, by omega⟩
      obtain ⟨done, hd, ho⟩ := HD.out
      have HO2 := Lib.hid ho
      have HD2 := Lib.hid hd
      clear ho hd HO HD
      have hsz := hg.grown.size
      go_wp2_with (at_builtin; refine wp_app _ rfl _ _ _ rfl elemU8 base A' _ c' _ rfl (HO2.out.alloc _) _ 1 1 [_] rfl rfl (Cells.one _ _ _) (by simp [Value.oneCell']) (by omega) (by unfold maxLen; omega) (by first | (simp; done) | (simp; omega)) ?_; intro A2 c2 w2 hO2 hg2; have HO3 := Lib.hid hO2; clear hO2)
      have e1 : m + (wide - (j + 1)) + 1 = m + (wide - j) := by omega
      go_roundw
      case rel =>
        refine ⟨j, A2, c2, by omega, rfl, by rw [e1], Lib.hid ⟨done ++ [byteOf (n / 2 ^ (8 * j))], ?_, ?_⟩, (hg.alloc _).trans hg2⟩
        · rw [← HD2.out]; simp [beBytes]
        · have h := HO3.out
          rw [e1] at h
          rw [List.map_append, ← List.append_assoc]
          have e2 : [u8v (byteOf (n / 2 ^ (8 * j)))] = [Value.int .u8 (n / 2 ^ (8 * j) % 256)] := by
            unfold u8v
            rw [byteOf_toNat]
          rw [List.map_cons, List.map_nil, e2]
          exact h
      case measure => simp [intOf] <;> omega
    · obtain rfl : k = 0 := by omega
      have HF : Hid (∃ A2 c2, Value.slice A' (m + (wide - 0)) c' = .slice A2 (m + wide) c2 ∧ Own wr base 5 1 A2 (m + wide) c2 (xs ++ (beBytes n wide).map u8v) ∧ Grew w wr A A2) := Lib.hid (by
        obtain ⟨done, hd, ho⟩ := HD.out
        rw [← hd, beBytes, List.append_nil]
        rw [Nat.sub_zero] at ho ⊢
        exact ⟨A', c', rfl, ho, hg⟩)
      clear HD HO
      go_wp2
      go_ret
      obtain ⟨A2, c2, h1, h2, h3⟩ := HF.out
      exact ⟨A2, c2, congrArg Ending.returned h1, h2, h3⟩

set_option maxHeartbeats 400000 in
theorem frame_Wrap_ok (l : List UInt8) (A : Option Addr) (c : Nat) (w : World) (hl : SlRep Rep.u8 w (· < w.heap.size) l A c) (hn : l.length ≤ 1024) :
    Calls Try.prog 23 #[.slice A l.length c] w fun e w' => ∃ A' c', e = .returned (.tuple #[.slice A' (4 + l.length) c', .int .i64 0]) ∧ Own w' w.heap.size 5 1 A' (4 + l.length) c' ((beBytes l.length 4 ++ l).map u8v) ∧ Below w.heap.size w w' := by
  have HL := Lib.hid hl
  clear hl
  have HP := Lib.hid (frame_Put w.heap.size none 0 0 [] 4 (l.length : Int) w (Own.nil _ _ _ _) (Nat.le_refl _) (by omega) (by omega) (by omega) (by omega))
  go_enter Try.func23, Try.ntmps23
  go_wp2_with fail
  refine HP.out.mono ?_
  rintro e w1 ⟨A1, c1, rfl, ho1, hg1⟩
  have HO1 := Lib.hid ho1
  have hb1 : Below w.heap.size w w1 := hg1.below (Nat.le_refl _) (fun k hk => by cases hk)
  have hsz := hb1.size
  have HC := Lib.hid ((HL.out.next hb1).cells_u8)
  clear ho1
  go_wp2_with (at_builtin; refine wp_app _ rfl _ _ _ rfl elemU8 w.heap.size A1 _ c1 _ rfl HO1.out A l.length c (l.map u8v) rfl (by simp) HC.out (oneCell_u8 l) (by omega) (by unfold maxLen; omega) (by omega) ?_; intro A2 c2 w2 hO2 hg2; have HO3 := Lib.hid hO2; clear hO2)
  go_ret2
  exact ⟨A2, c2, rfl, by simpa using HO3.out, Grew.step hb1 hg2 (fun k hk => (HO1.out.lt k hk).1)⟩

set_option maxHeartbeats 400000 in
theorem frame_Wrap_no (n c : Nat) (A : Option Addr) (w : World) (hn : 1024 < n) (hn2 : n ≤ 140737488351232) :
    Calls Try.prog 23 #[.slice A n c] w fun e w' => e = .returned (.tuple #[.slice none 0 0, .int .i64 1]) ∧ w = w' := by
  go_enter Try.func23, Try.ntmps23
  go_wp2
  go_ret2
  exact ⟨rfl, rfl⟩

theorem beBytes4 (n : Int) (h0 : 0 ≤ n) (h : n ≤ 1024) : (beBytes n 4).map u8v = [.int .u8 0, .int .u8 0, .int .u8 (n / 256), .int .u8 (n % 256)] := by
  simp only [beBytes, List.map_cons, List.map_nil, u8v, byteOf_toNat]
  simp
  refine ⟨?_, ?_, ?_⟩ <;> omega

set_option maxHeartbeats 400000 in
theorem ref_Wrap_ok (l : List UInt8) (A : Option Addr) (c : Nat) (w : World) (hl : SlRep Rep.u8 w (· < w.heap.size) l A c) (hn : l.length ≤ 1024) :
    Calls Try.prog 24 #[.slice A l.length c] w fun e w' => ∃ A' c', e = .returned (.tuple #[.slice A' (4 + l.length) c', .int .i64 0]) ∧ Own w' w.heap.size 5 1 A' (4 + l.length) c' ((beBytes l.length 4 ++ l).map u8v) ∧ Below w.heap.size w w' := by
  have HL := Lib.hid hl
  clear hl
  have HB := Lib.hid (beBytes4 l.length (by omega) (by omega))
  have HO1 := Lib.hid (Own.lit w w.heap.size 5 1 4 [.int .u8 0, .int .u8 0, .int .u8 ((l.length : Int) / 256), .int .u8 ((l.length : Int) % 256)] (Nat.le_refl _) rfl (by decide))
  have HC := Lib.hid ((HL.out.next (balloc (bself w) (.cells [Value.int .u8 0, .int .u8 0, .int .u8 ((l.length : Int) / 256), .int .u8 ((l.length : Int) % 256)].toArray 5))).cells_u8)
  go_enter Try.func24, Try.ntmps24
  go_wp2_with (at_builtin; refine wp_app _ rfl _ _ _ rfl elemU8 w.heap.size _ _ _ _ rfl HO1.out A l.length c (l.map u8v) rfl (by simp) HC.out (oneCell_u8 l) (by omega) (by unfold maxLen; omega) (by simp) ?_; intro A2 c2 w2 hO2 hg2; have HO3 := Lib.hid hO2; clear hO2)
  go_ret2
  exact ⟨A2, c2, rfl, by rw [List.map_append, HB.out]; exact HO3.out, Grew.step (balloc (bself w) _) hg2 (fun k hk => (HO1.out.lt k hk).1)⟩

set_option maxHeartbeats 400000 in
theorem ref_Wrap_no (n c : Nat) (A : Option Addr) (w : World) (hn : 1024 < n) (hn2 : n ≤ 140737488351232) :
    Calls Try.prog 24 #[.slice A n c] w fun e w' => e = .returned (.tuple #[.slice none 0 0, .int .i64 1]) ∧ w = w' := by
  go_enter Try.func24, Try.ntmps24
  go_wp2
  go_ret2
  exact ⟨rfl, rfl⟩

set_option maxHeartbeats 400000 in
theorem law_sameBytes (l : List UInt8) (A A' : Option Addr) (c c' : Nat) (S S' : Nat → Prop) (w : World) (hl : SlRep Rep.u8 w S l A c) (hl' : SlRep Rep.u8 w S' l A' c') (hn : l.length ≤ 9223372036854775807) :
    Calls Try.prog 25 #[.slice A l.length c, .slice A' l.length c'] w fun e w' => e = .returned (.bool true) ∧ Below w.heap.size w w' := by
  have HL := Lib.hid hl
  have HL' := Lib.hid hl'
  clear hl hl'
  go_enter Try.func25, Try.ntmps25
  go_wp2
  go_loopw [5] (fun i wr => ∃ k m : Nat, k ≤ l.length ∧ i = .int .i64 k ∧ wr = w.drewN m) (fun i _ => l.length - (intOf i).toNat)
  case atStart => exact ⟨0, 0, by omega, rfl, rfl⟩
  case round =>
    obtain ⟨k, m, hk, rfl, rfl⟩ := hrel
    by_cases hlt : k < l.length
    · obtain ⟨b, o, rfl, _, hc1⟩ := u8_at HL.out hlt
      obtain ⟨b', o', rfl, _, hc2⟩ := u8_at HL'.out hlt
      have hlt' : (k : Int) < (l.length : Int) := by omega
      generalize (l.getD k 0).toNat = x at *
      go_wp2
      go_quiet (fail)
      go_wp2
      go_roundw
      case rel => exact ⟨k + 1, _, by omega, by go_num, rfl⟩
      case measure => simp [intOf]; omega
    · go_wp2
      go_ret
      exact ⟨rfl, (by repeat (first | (with_reducible exact Below.refl _ _) | (with_reducible assumption) | (with_reducible refine bset ?_ ?_ _) | (with_reducible refine balloc ?_ _) | (with_reducible refine Below.drew ?_) | (with_reducible refine bdrewN ?_ _) | (with_reducible refine bnext ?_ (by with_reducible assumption)) | exact Nat.le_refl _ | (simp; done) | omega | (simp; omega)))⟩

set_option maxHeartbeats 400000 in
theorem lawFrameWraps_walk (l : List UInt8) (A : Option Addr) (c : Nat) (w : World) (hl : SlRep Rep.u8 w (· < w.heap.size) l A c) (hok : AllOk 1 AnyOk l) :
    Calls Try.prog 8 #[.slice A l.length c] w fun e w' => e = .returned (.bool true) ∧ Below w.heap.size w w' := by
  have hn : l.length ≤ 140737488351232 := by have := hok.2; omega
  clear hok
  have HL := Lib.hid hl
  clear hl
  by_cases hs : l.length ≤ 1024
  · go_enter Try.func8, Try.ntmps8
    go_wp2_with fail
    refine (frame_Wrap_ok l A c w HL.out hs).mono ?_
    rintro e w1 ⟨A1, c1, rfl, ho1, hb1⟩
    have HO1 := Lib.hid ho1
    clear ho1
    go_wp2_with fail
    refine (ref_Wrap_ok l A c w1 (HL.out.next hb1) hs).mono ?_
    rintro e w2 ⟨A2, c2, rfl, ho2, hb2⟩
    have HO2 := Lib.hid ho2
    have HO1' := Lib.hid (HO1.out.next hb2)
    clear ho2
    go_wp2_with fail
    have hlen : 4 + l.length = (beBytes l.length 4 ++ l).length := by simp [beBytes]; omega
    have r1 := HO1'.out.u8.2
    have r2 := HO2.out.u8.2
    rw [hlen]
    refine (law_sameBytes _ _ _ _ _ _ _ _ r1 r2 (by rw [← hlen]; omega)).mono ?_
    rintro e w3 ⟨rfl, hb3⟩
    go_wp2_with fail
    go_ret
    exact ⟨rfl, (by repeat (first | (with_reducible exact Below.refl _ _) | (with_reducible assumption) | (with_reducible refine bset ?_ ?_ _) | (with_reducible refine balloc ?_ _) | (with_reducible refine Below.drew ?_) | (with_reducible refine bdrewN ?_ _) | (with_reducible refine bnext ?_ (by with_reducible assumption)) | exact Nat.le_refl _ | (simp; done) | omega | (simp; omega)))⟩
  · have hs' : 1024 < l.length := by omega
    go_enter Try.func8, Try.ntmps8
    go_wp2_with fail
    refine (frame_Wrap_no l.length c A w hs' hn).mono ?_
    rintro e w1 ⟨rfl, rfl⟩
    go_wp2_with fail
    refine (ref_Wrap_no l.length c A w hs' hn).mono ?_
    rintro e w1 ⟨rfl, rfl⟩
    go_wp2_with fail
    refine (law_sameBytes [] none none 0 0 (fun _ => False) (fun _ => False) w ⟨by simp, by simp, .inl rfl⟩ ⟨by simp, by simp, .inl rfl⟩ (by simp)).mono ?_
    rintro e w3 ⟨rfl, hb3⟩
    go_wp2_with fail
    go_ret
    exact ⟨rfl, (by repeat (first | (with_reducible exact Below.refl _ _) | (with_reducible assumption) | (with_reducible refine bset ?_ ?_ _) | (with_reducible refine balloc ?_ _) | (with_reducible refine Below.drew ?_) | (with_reducible refine bdrewN ?_ _) | (with_reducible refine bnext ?_ (by with_reducible assumption)) | exact Nat.le_refl _ | (simp; done) | omega | (simp; omega)))⟩
end Go.Proofs.Ytdjdjjbcmlnecaa
