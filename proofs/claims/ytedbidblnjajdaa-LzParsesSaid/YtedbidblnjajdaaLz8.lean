/- Package lz: the walk of the law LzParses. No condition. -/
import Derived.Test.YtedbidblnjajdaaLz7
namespace Go.Proofs.Ytedbidblnjajdaa
open Go.RowKit

set_option maxHeartbeats 400000 in
theorem lz_Parse_long (n c : Nat) (A : Option Addr) (w : World) (hn : 4096 < n) (hn2 : n ≤ 140737488351232) :
    Calls Try.prog 26 #[.slice A n c] w (TokRes [] 1 w) := by
  go_enter Try.func26, Try.ntmps26
  go_wp2
  go_ret2
  exact ⟨none, 0, rfl, Own.nil _ _ _ _, Below.refl _ _⟩
set_option maxHeartbeats 400000 in
theorem ref_LzParsed_long (n c : Nat) (A : Option Addr) (w : World) (hn : 4096 < n) (hn2 : n ≤ 140737488351232) :
    Calls Try.prog 27 #[.slice A n c] w (TokRes [] 1 w) := by
  go_enter Try.func27, Try.ntmps27
  go_wp2
  go_ret2
  exact ⟨none, 0, rfl, Own.nil _ _ _ _, Below.refl _ _⟩
def lzq.res (l : List UInt8) : List Token := if 4096 < l.length then [] else toks l 0
def lzq.code (l : List UInt8) : Int := if 4096 < l.length then 1 else 0
theorem lz_Parse_res (l : List UInt8) (A : Option Addr) (c : Nat) (w : World) (hl : SlRep Rep.u8 w (· < w.heap.size) l A c) (hn : l.length ≤ 140737488351232) :
    Calls Try.prog 26 #[.slice A l.length c] w (TokRes (lzq.res l) (lzq.code l) w) := by
  unfold lzq.res lzq.code
  by_cases h : 4096 < l.length
  · rw [if_pos h, if_pos h]
    exact lz_Parse_long _ c A w h hn
  · rw [if_neg h, if_neg h]
    exact lz_Parse_ok l A c w hl (by omega)
theorem ref_LzParsed_res (l : List UInt8) (A : Option Addr) (c : Nat) (w : World) (hl : SlRep Rep.u8 w (· < w.heap.size) l A c) (hn : l.length ≤ 140737488351232) :
    Calls Try.prog 27 #[.slice A l.length c] w (TokRes (lzq.res l) (lzq.code l) w) := by
  unfold lzq.res lzq.code
  by_cases h : 4096 < l.length
  · rw [if_pos h, if_pos h]
    exact ref_LzParsed_long _ c A w h hn
  · rw [if_neg h, if_neg h]
    exact ref_LzParsed_ok l A c w hl (by omega)

set_option maxRecDepth 100000 in
set_option maxHeartbeats 1000000 in
theorem lawLzParses_walk (l : List UInt8) (A : Option Addr) (c : Nat) (w : World) (hl : SlRep Rep.u8 w (· < w.heap.size) l A c) (hok : AllOk 1 AnyOk l) :
    Calls Try.prog 7 #[.slice A l.length c] w fun e w' => e = .returned (.bool true) ∧ Below w.heap.size w w' := by
  have hn : l.length ≤ 140737488351232 := by have := hok.2; omega
  clear hok
  have HL := Lib.hid hl
  clear hl
  go_enter Try.func7, Try.ntmps7
  go_wp2_with fail
  refine (lz_Parse_res l A c w HL.out hn).mono ?_
  rintro e w1 ⟨A1, c1, rfl, ho1, hb1⟩
  have HO1 := Lib.hid ho1
  clear ho1
  go_wp2_with fail
  refine (ref_LzParsed_res l A c w1 (HL.out.next hb1) hn).mono ?_
  rintro e w2 ⟨A2, c2, rfl, ho2, hb2⟩
  have R1 := Lib.hid ((HO1.out.next hb2).flat Token.cells (R := Token.rep) rfl (Token.enc _) (by decide)).2
  have R2 := Lib.hid (ho2.flat Token.cells (R := Token.rep) rfl (Token.enc _) (by decide)).2
  have hm : (lzq.res l).length ≤ 9223372036854775807 := by have := ho2.cap; unfold maxLen at this; omega
  have hB2 : Below w.heap.size w w2 := bnext hb1 hb2
  clear ho2 HO1 hb1 hb2 HL
  generalize lzq.res l = o at *
  generalize lzq.code l = er at *
  go_wp2
  go_loopw [7] (fun i wr => ∃ k m : Nat, k ≤ o.length ∧ i = .int .i64 k ∧ wr = w2.drewN m) (fun i _ => o.length - (intOf i).toNat)
  case atStart => exact ⟨0, 0, by omega, rfl, rfl⟩
  case round =>
    obtain ⟨k, m, hk, rfl, rfl⟩ := hrel
    by_cases hlt : k < o.length
    · obtain ⟨b, o1, rfl, _, hc0, hc1, hc2⟩ := Token.cells_at lzp.z R1.out hlt
      obtain ⟨b', o', rfl, _, hd0, hd1, hd2⟩ := Token.cells_at lzp.z R2.out hlt
      have hlt' : (k : Int) < (o.length : Int) := by omega
      generalize o.getD k lzp.z = t at *
      obtain ⟨by_, di, ln⟩ := t
      dsimp only at hc0 hc1 hc2 hd0 hd1 hd2
      go_wp2
      go_quiet (fail)
      go_wp2
      go_roundw
      case rel => exact ⟨k + 1, _, by omega, by go_num, rfl⟩
      case measure => simp [intOf]; omega
    · go_wp2
      go_ret
      exact ⟨rfl, (by repeat (first | (with_reducible exact Below.refl _ _) | (with_reducible assumption) | (with_reducible refine bset ?_ ?_ _) | (with_reducible refine balloc ?_ _) | (with_reducible refine Below.drew ?_) | (with_reducible refine bdrewN ?_ _) | (with_reducible refine bnext ?_ (by with_reducible assumption)) | exact Nat.le_refl _ | (simp; done) | omega | (simp; omega)))⟩
end Go.Proofs.Ytedbidblnjajdaa
