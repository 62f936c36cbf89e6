/- TopPress: the small functions. No condition. -/
import Derived.Test.YtkbmpppendelcaaPressC
import Derived.Test.YtkbmpppendelcaaPrB
import Derived.BigQuiet
import Derived.IntWalk
namespace Go.Proofs.Ytkbmpppendelcaa
open Go.RowKit
set_option linter.unusedSimpArgs false

set_option maxHeartbeats 400000 in
theorem keep_Picked (a n : Int) (ha : IntOk a) (hn : 0 < n ∧ n ≤ 65536) (w : World) : Calls Try.prog 6 #[.int .i64 a, .int .i64 n] w fun e w' => e = .returned (.int .i64 (a % n)) ∧ w = w' := by
  obtain ⟨h1, h2⟩ := ha
  obtain ⟨h3, h4⟩ := hn
  have hm := Int.tmod_eq_emod (a := a) (b := n)
  have hab : (n.natAbs : Int) = n := by omega
  have hlt := Int.emod_lt_of_pos a h3
  have hge := Int.emod_nonneg a (show n ≠ 0 by omega)
  have hn0 : ¬ n = 0 := by omega
  have hc : (a.tmod n = a % n) ∨ (a.tmod n < 0 ∧ a.tmod n + n = a % n) := by
    by_cases hd : 0 ≤ a ∨ n ∣ a
    · rw [if_pos hd] at hm; exact .inl (by omega)
    · rw [if_neg hd] at hm; exact .inr (by omega)
  have hw1 := IntWalk.i64_in (a.tmod n) (by omega)
  have hw2 := IntWalk.i64_in (a.tmod n + n) (by omega)
  have hw3 := IntWalk.wrap64_in (a.tmod n) (by omega)
  have hw4 := IntWalk.wrap64_in (a.tmod n + n) (by omega)
  clear hm
  rcases hc with he | ⟨hneg, he⟩
  · have hneg : ¬ a.tmod n < 0 := by omega
    have HE := Lib.hid he
    clear he
    go_enter Try.func6, Try.ntmps6
    go_wp2
    go_ret
    exact ⟨by rw [← HE.out]; rfl, rfl⟩
  · have HE := Lib.hid he
    clear he
    go_enter Try.func6, Try.ntmps6
    go_wp2
    go_ret
    exact ⟨by rw [← HE.out]; first | rfl | (show Ending.returned (.int .i64 (wrap64 (a.tmod n + n))) = _; rw [hw4]), rfl⟩


set_option maxRecDepth 100000 in
set_option maxHeartbeats 400000 in
theorem keep_Octets300 (d : List UInt8) (A : Option Addr) (c : Nat) (w : World) (hl : SlRep Rep.u8 w (· < w.heap.size) d A c) (hn : d.length ≤ 140737488351232) :
    Calls Try.prog 16 #[.slice A d.length c, .int .i64 300] w fun e w' => ∃ A' c', e = .returned (.slice A' (d.take 300).length c') ∧ Own w' w.heap.size 5 1 A' (d.take 300).length c' ((d.take 300).map u8v) ∧ Below w.heap.size w w' := by
  obtain ⟨m, hm⟩ : ∃ m, m = (d.take 300).length := ⟨_, rfl⟩
  have hm1 : m = min 300 d.length := by rw [hm, List.length_take]
  have HT := Lib.hid (hl.take 300)
  have hcap := hl.1
  have HM := Lib.hid hm
  rw [← hm]
  have hcut := run_cut_h (P := Try.prog) elemU8 A d.length c m (by omega) (m : Int) rfl
  have hmin : min (d.length : Int) 300 = (m : Int) := by omega
  clear hl hm
  have HD := Lib.hid hm1
  by_cases h64 : d.length ≤ 300
  · have h64' : (d.length : Int) ≤ 300 := by omega
    obtain rfl : m = d.length := by omega
    clear HD hm1
    go_enter Try.func16, Try.ntmps16
    go_wp2_with (at_builtin; (refine wp_app _ rfl _ _ _ rfl elemU8 w.heap.size none 0 0 [] rfl (Own.nil _ _ _ _) A d.length _ ((d.take 300).map u8v) rfl (by rw [List.length_map, ← HM.out, Nat.mul_one]) (HT.out.cells_u8) (oneCell_u8 _) (by omega) (by unfold maxLen; omega) (Nat.le_refl _) ?_; intro A3 c3 w3 hO3 hg3; simp only [Nat.zero_add, List.nil_append] at hO3 ⊢; have HO3 := Lib.hid hO3; clear hO3))
    go_ret
    exact ⟨A3, c3, rfl, HO3.out, Grew.step (bself w) hg3 (fun k hk => by cases hk)⟩
  · have h64' : (300 : Int) < (d.length : Int) := by omega
    obtain rfl : m = 300 := by omega
    clear HD hm1 hcut
    have hmin : min (d.length : Int) 300 = 300 := hmin
    have hcut := run_cut_h (P := Try.prog) elemU8 A d.length c 300 (by omega) 300 rfl
    go_enter Try.func16, Try.ntmps16
    go_wp2_with (at_builtin; (refine wp_app _ rfl _ _ _ rfl elemU8 w.heap.size none 0 0 [] rfl (Own.nil _ _ _ _) A 300 _ ((d.take 300).map u8v) rfl (by rw [List.length_map, ← HM.out]) (HT.out.cells_u8) (oneCell_u8 _) (by omega) (by unfold maxLen; omega) (Nat.le_refl _) ?_; intro A3 c3 w3 hO3 hg3; simp only [Nat.zero_add, List.nil_append] at hO3 ⊢; have HO3 := Lib.hid hO3; clear hO3))
    go_ret
    exact ⟨A3, c3, rfl, HO3.out, Grew.step (bself w) hg3 (fun k hk => by cases hk)⟩

/-- bytes of few kinds -/
def pr.few (k : Nat) (x : UInt8) : UInt8 := UInt8.ofNat (x.toNat % k)
theorem pr.few_nat {k : Nat} (h : 1 ≤ k ∧ k ≤ 60) (x : UInt8) : (pr.few k x).toNat = x.toNat % k := hf.ofNat_toNat (by have := Nat.mod_lt x.toNat (y := k) (by omega); omega)
def pr.fewTo (k : Nat) (T : List UInt8) (j : Nat) : List UInt8 := (T.take j).map (pr.few k) ++ T.drop j
theorem pr.fewTo_len (k : Nat) (T : List UInt8) (j : Nat) : (pr.fewTo k T j).length = T.length := by
  unfold pr.fewTo
  rw [List.length_append, List.length_map, List.length_take, List.length_drop]
  omega
theorem pr.fewTo_at {k : Nat} {T : List UInt8} {j : Nat} (h : j < T.length) : (pr.fewTo k T j)[j]? = some (T.getD j 0) := by
  unfold pr.fewTo
  rw [List.getElem?_append_right (by rw [List.length_map, List.length_take]; omega), List.length_map, List.length_take, Nat.min_eq_left (by omega), Nat.sub_self, List.getElem?_drop, Nat.add_zero, List.getD_eq_getElem?_getD, List.getElem?_eq_getElem h]
  rfl
theorem pr.fewTo_set {k : Nat} {T : List UInt8} {j : Nat} (h : j < T.length) : (pr.fewTo k T j).set j (pr.few k (T.getD j 0)) = pr.fewTo k T (j + 1) := by
  unfold pr.fewTo
  rw [List.set_append_right _ _ (by rw [List.length_map, List.length_take]; omega), List.length_map, List.length_take, Nat.min_eq_left (by omega), Nat.sub_self, drop_getD T 0 h, List.set_cons_zero, List.take_add_one, List.getElem?_eq_getElem h, List.map_append, List.append_assoc, List.getD_eq_getElem?_getD, List.getElem?_eq_getElem h]
  rfl
theorem pr.fewTo_end (k : Nat) (T : List UInt8) : pr.fewTo k T T.length = T.map (pr.few k) := by
  unfold pr.fewTo
  rw [List.take_length, List.drop_length, List.append_nil]

set_option maxRecDepth 100000 in
set_option maxHeartbeats 1000000 in
theorem keep_Few (d : List UInt8) (A : Option Addr) (c : Nat) (k : Nat) (hk : 1 ≤ k ∧ k ≤ 60) (w : World) (hl : SlRep Rep.u8 w (· < w.heap.size) d A c) (hn : d.length ≤ 140737488351232) :
    Calls Try.prog 5 #[.slice A d.length c, .int .i64 (k : Int), .int .i64 300] w fun e w' => ∃ A' c', e = .returned (.slice A' (d.take 300).length c') ∧ Own w' w.heap.size 5 1 A' (d.take 300).length c' (((d.take 300).map (pr.few k)).map u8v) ∧ Below w.heap.size w w' := by
  have HOC := Lib.hid (keep_Octets300 d A c w hl hn)
  obtain ⟨T, hT⟩ : ∃ T, d.take 300 = T := ⟨_, rfl⟩
  have hTl : T.length ≤ 300 := by rw [← hT, List.length_take]; omega
  rw [hT] at HOC ⊢
  clear hl
  have hk0 : ¬ (k : Int) = 0 := by omega
  have hkw : IntKind.u8.wrap (k : Int) = (k : Int) := IntWalk.u8_in _ (by omega)
  go_enter Try.func5, Try.ntmps5
  go_wp2_with (first
    | (go_at_call 16; ((with_reducible refine HOC.out.mono ?_); rintro e w1 ⟨A1, c1, rfl, hO1, hB1⟩; have HO1 := Lib.hid hO1; have HB1 := Lib.hid hB1; clear hO1 hB1))
    | fail)
  go_loopw [8] (fun i wr => ∃ j : Nat, j ≤ T.length ∧ i = .int .i64 (j : Int) ∧ Hid (Own wr w.heap.size 5 1 A1 T.length c1 ((pr.fewTo k T j).map u8v) ∧ Below w.heap.size w wr)) (fun i _ => T.length - (intOf i).toNat)
  case atStart => exact ⟨0, by omega, rfl, Lib.hid ⟨by
      have e : pr.fewTo k T 0 = T := by unfold pr.fewTo; simp
      rw [e]
      exact HO1.out, HB1.out⟩⟩
  case round =>
    obtain ⟨j, hj, rfl, HJ⟩ := hrel
    rename World => wr
    by_cases hlt : j < T.length
    · have hlt' : (j : Int) < (T.length : Int) := by omega
      obtain ⟨g, rfl, hgb, hgl, hc⟩ := Own.cell HJ.out.1 (j := j) (u := u8v (T.getD j 0)) (by rw [List.getElem?_map, pr.fewTo_at hlt]; rfl)
      have hfz := HJ.out.1.frozenAt
      have HST := Lib.hid (pr.fewTo_set (k := k) hlt)
      have HNA := Lib.hid (pr.few_nat hk (T.getD j 0))
      unfold u8v at hc
      generalize T.getD j 0 = x at *
      obtain ⟨xv, hxv⟩ : ∃ xv : Nat, x.toNat = xv := ⟨_, rfl⟩
      have hxl : xv ≤ 255 := by have := UInt8.toNat_lt x; omega
      have HX := Lib.hid hxv
      rw [hxv] at hc
      clear hxv
      have hmod : (xv : Int).tmod (k : Int) = ((xv % k : Nat) : Int) := by rw [Int.tmod_eq_emod_of_nonneg (by omega)]; rfl
      have hmw : IntKind.u8.wrap ((xv % k : Nat) : Int) = ((xv % k : Nat) : Int) := IntWalk.u8_in _ (by have := Nat.mod_lt xv (y := k) (by omega); omega)
      have HMOD := Lib.hid hmod
      go_wp2
      go_roundw
      case rel => exact ⟨j + 1, by omega, by go_num, Lib.hid ⟨by
          have h := HJ.out.1.setAt (j := j) (u8v (pr.few k x))
          rw [← List.map_set, HST.out] at h
          unfold u8v at h
          rw [HNA.out, HX.out] at h
          exact h, bset HJ.out.2 hgb _⟩⟩
      case measure => simp [intOf]; omega
    · obtain rfl : j = T.length := by omega
      go_wp2
      go_ret
      exact ⟨A1, c1, rfl, by rw [← pr.fewTo_end]; exact HJ.out.1, HJ.out.2⟩

set_option maxHeartbeats 400000 in
theorem top_sameBytes (l : List UInt8) (A A' : Option Addr) (c c' : Nat) (S S' : Nat → Prop) (w : World) (hl : SlRep Rep.u8 w S l A c) (hl' : SlRep Rep.u8 w S' l A' c') (hn : l.length ≤ 9223372036854775807) :
    Calls Try.prog 12 #[.slice A l.length c, .slice A' l.length c'] w fun e w' => e = .returned (.bool true) ∧ Below w.heap.size w w' := by
  have HL := Lib.hid hl
  have HL' := Lib.hid hl'
  clear hl hl'
  go_enter Try.func12, Try.ntmps12
  go_wp2
  go_loopw [5] (fun i wr => ∃ k m : Nat, k ≤ l.length ∧ i = .int .i64 k ∧ wr = w.drewN m) (fun i _ => l.length - (intOf i).toNat)
  case atStart => exact ⟨0, 0, by omega, rfl, rfl⟩
  case round =>
    obtain ⟨k, m, hk, rfl, rfl⟩ := hrel
    by_cases hlt : k < l.length
    · obtain ⟨b, o, rfl, _, hc1⟩ := u8_at HL.out hlt
      obtain ⟨b', o', rfl, _, hc2⟩ := u8_at HL'.out hlt
      have hlt' : (k : Int) < (l.length : Int) := by omega
      generalize (l.getD k 0).toNat = x at *
      go_wp2
      go_quiet (fail)
      go_wp2
      go_roundw
      case rel => exact ⟨k + 1, _, by omega, by go_num, rfl⟩
      case measure => simp [intOf]; omega
    · go_wp2
      go_ret
      exact ⟨rfl, bdrewN (bself w) m⟩


end Go.Proofs.Ytkbmpppendelcaa
