/- TopSealed: the parts. No condition. -/
import Derived.Test.YtedbidblnjajdaaSegD3
import Derived.Test.YtedbidblnjajdaaSealedP
import Derived.Test.YtedbidblnjajdaaInet2
namespace Go.Proofs.Ytedbidblnjajdaa
open Go.RowKit

set_option maxHeartbeats 400000 in
theorem keep_Picked (a n : Int) (ha : IntOk a) (hn : 0 < n ∧ n ≤ 65536) (w : World) : Calls Try.prog 38 #[.int .i64 a, .int .i64 n] w fun e w' => e = .returned (.int .i64 (a % n)) ∧ w = w' := by
  obtain ⟨h1, h2⟩ := ha
  obtain ⟨h3, h4⟩ := hn
  have hm := Int.tmod_eq_emod (a := a) (b := n)
  have hab : (n.natAbs : Int) = n := by omega
  have hlt := Int.emod_lt_of_pos a h3
  have hge := Int.emod_nonneg a (show n ≠ 0 by omega)
  have hn0 : ¬ n = 0 := by omega
  have hc : (a.tmod n = a % n) ∨ (a.tmod n < 0 ∧ a.tmod n + n = a % n) := by
    by_cases hd : 0 ≤ a ∨ n ∣ a
    · rw [if_pos hd] at hm; exact .inl (by omega)
    · rw [if_neg hd] at hm; exact .inr (by omega)
  have hw1 := IntWalk.i64_in (a.tmod n) (by omega)
  have hw2 := IntWalk.i64_in (a.tmod n + n) (by omega)
  have hw3 := IntWalk.wrap64_in (a.tmod n) (by omega)
  have hw4 := IntWalk.wrap64_in (a.tmod n + n) (by omega)
  clear hm
  rcases hc with he | ⟨hneg, he⟩
  · have hneg : ¬ a.tmod n < 0 := by omega
    have HE := Lib.hid he
    clear he
    go_enter Try.func38, Try.ntmps38
    go_wp2
    go_ret
    exact ⟨by rw [← HE.out]; rfl, rfl⟩
  · have HE := Lib.hid he
    clear he
    go_enter Try.func38, Try.ntmps38
    go_wp2
    go_ret
    exact ⟨by rw [← HE.out]; first | rfl | (show Ending.returned (.int .i64 (wrap64 (a.tmod n + n))) = _; rw [hw4]), rfl⟩

set_option maxRecDepth 100000 in
set_option maxHeartbeats 400000 in
theorem keep_Octets (d : List UInt8) (A : Option Addr) (c : Nat) (w : World) (hl : SlRep Rep.u8 w (· < w.heap.size) d A c) (hn : d.length ≤ 140737488351232) :
    Calls Try.prog 66 #[.slice A d.length c, .int .i64 64] w fun e w' => ∃ A' c', e = .returned (.slice A' (d.take 64).length c') ∧ Own w' w.heap.size 5 1 A' (d.take 64).length c' ((d.take 64).map u8v) ∧ Below w.heap.size w w' := by
  obtain ⟨m, hm⟩ : ∃ m, m = (d.take 64).length := ⟨_, rfl⟩
  have hm1 : m = min 64 d.length := by rw [hm, List.length_take]
  have HT := Lib.hid (hl.take 64)
  have hcap := hl.1
  have HM := Lib.hid hm
  rw [← hm]
  have hcut := run_cut_h (P := Try.prog) elemU8 A d.length c m (by omega) (m : Int) rfl
  have hmin : min (d.length : Int) 64 = (m : Int) := by omega
  clear hl hm
  have HD := Lib.hid hm1
  by_cases h64 : d.length ≤ 64
  · have h64' : (d.length : Int) ≤ 64 := by omega
    obtain rfl : m = d.length := by omega
    clear hmin HD hm1
    go_enter Try.func66, Try.ntmps66
    go_wp2_with (at_builtin; (refine wp_app _ rfl _ _ _ rfl elemU8 w.heap.size none 0 0 [] rfl (Own.nil _ _ _ _) A d.length _ ((d.take 64).map u8v) rfl (by rw [List.length_map, ← HM.out, Nat.mul_one]) (HT.out.cells_u8) (oneCell_u8 _) (by omega) (by unfold maxLen; omega) (Nat.le_refl _) ?_; intro A3 c3 w3 hO3 hg3; simp only [Nat.zero_add, List.nil_append] at hO3 ⊢; have HO3 := Lib.hid hO3; clear hO3))
    go_ret
    exact ⟨A3, c3, rfl, HO3.out, Grew.step (bself w) hg3 (fun k hk => by cases hk)⟩
  · have h64' : (64 : Int) < (d.length : Int) := by omega
    obtain rfl : m = 64 := by omega
    clear hmin HD hm1 hcut
    have hcut := run_cut_h (P := Try.prog) elemU8 A d.length c 64 (by omega) 64 rfl
    go_enter Try.func66, Try.ntmps66
    go_wp2_with (at_builtin; go_loud (refine wp_app _ rfl _ _ _ rfl elemU8 w.heap.size none 0 0 [] rfl (Own.nil _ _ _ _) A 64 _ ((d.take 64).map u8v) rfl (by rw [List.length_map, ← HM.out]) (HT.out.cells_u8) (oneCell_u8 _) (by omega) (by unfold maxLen; omega) (Nat.le_refl _) ?_; intro A3 c3 w3 hO3 hg3; simp only [Nat.zero_add, List.nil_append] at hO3 ⊢; have HO3 := Lib.hid hO3; clear hO3))
    go_ret
    exact ⟨A3, c3, rfl, HO3.out, Grew.step (bself w) hg3 (fun k hk => by cases hk)⟩

theorem seg_Decode_all (b : List UInt8) (A : Option Addr) (c : Nat) (w : World) (hl : SlRep Rep.u8 w (· < w.heap.size) b A c) (hn : b.length ≤ 140737488351232) :
    Calls Try.prog 33 #[.slice A b.length c] w (SegRes (sg.dec b) w) := by
  by_cases h1 : b.length < 10
  · rw [show sg.dec b = .error 5 from if_pos h1]
    exact seg_Decode_short b A c w h1
  · by_cases h2 : sg.sumOf (sg.blank b) = sg.w16 b 8
    · exact seg_Decode_long b A c w hl hn (by omega) h2
    · rw [show sg.dec b = .error 6 by unfold sg.dec; rw [if_neg h1, if_pos h2]]
      exact seg_Decode_sum b A c w hl hn (by omega) h2
theorem SegRes.wide {r : Except Int Segment} {w w1 : World} {e : Ending} (h : SegRes r w e w1) : ∃ A0 c0 A1 c1, e = .returned (.tuple #[(segOr r).val A0 c0 A1 c1, .int .i64 (exC r)]) ∧ SlRep Rng.rep w1 (· < w1.heap.size) (segOr r).sacks A0 c0 ∧ SlRep Rep.u8 w1 (· < w1.heap.size) (segOr r).data A1 c1 ∧ Below w.heap.size w w1 := by
  obtain ⟨A0, c0, A1, c1, he, h0, h1, hb⟩ := h
  exact ⟨A0, c0, A1, c1, he, h0.keep fun j hj => ⟨hj.2, rfl⟩, h1.keep fun j hj => ⟨hj.2, rfl⟩, hb⟩
end Go.Proofs.Ytedbidblnjajdaa
