/- Package path: is it a name? No condition. -/
import Derived.Test.YtlcjdlnhniemcaaDoorPath2
namespace Go.Proofs.YtlcjdlnhniemcaaDoor
open Go.RowKit

theorem pa.name_free (s : List UInt8) : pa.name s = (decide (1 ≤ s.length) && decide (s.length ≤ 16) && !decide (s = [46]) && !decide (s = [46, 46]) && pa.free s) := rfl
theorem pa.str_dot (s : List UInt8) : (strOf s = ⟨#[46]⟩) ↔ s = [46] := strOf_inj (l := s) (m := [46])
theorem pa.str_dots (s : List UInt8) : (strOf s = ⟨#[46, 46]⟩) ↔ s = [46, 46] := strOf_inj (l := s) (m := [46, 46])
theorem pa.u8_no {a b : UInt8} (n : Int) (h : a ≠ b) (hb : (b.toNat : Int) = n) : ((a.toNat : Int) == n) = false ∧ ((a.toNat : Int) != n) = true := by
  have e : (a.toNat : Int) ≠ n := fun e => h (UInt8.toNat_inj.1 (by omega))
  exact ⟨by rw [beq_eq_false_iff_ne]; exact e, by rw [bne_iff_ne]; exact e⟩
theorem pa.str_no {s l : List UInt8} (h : s ≠ l) : (s == l) = false := beq_eq_false_iff_ne.2 h
theorem pa.str_ne {s l : List UInt8} (h : s ≠ l) : (s != l) = true := bne_iff_ne.2 h
theorem pa.name_short {s : List UInt8} (h : ¬ 1 ≤ s.length) : pa.name s = false := by rw [pa.name_free, decide_eq_false h]; rfl
theorem pa.name_long {s : List UInt8} (h : ¬ s.length ≤ 16) : pa.name s = false := by rw [pa.name_free, decide_eq_false h, Bool.and_false]; rfl
theorem pa.name_dot {s : List UInt8} (h : s = [46]) : pa.name s = false := by subst h; rfl
theorem pa.name_dots {s : List UInt8} (h : s = [46, 46]) : pa.name s = false := by subst h; rfl
theorem pa.name_ok {s : List UInt8} (h1 : 1 ≤ s.length) (h2 : s.length ≤ 16) (h3 : s ≠ [46]) (h4 : s ≠ [46, 46]) : pa.name s = pa.free s := by
  rw [pa.name_free, decide_eq_true h1, decide_eq_true h2, decide_eq_false h3, decide_eq_false h4]; simp

set_option maxHeartbeats 1000000 in
theorem path_Name (s : List UInt8) (w : World) : Calls Tryd.prog 41 #[.string (strOf s)] w fun e w' => e = .returned (.bool (pa.name s)) ∧ Below w.heap.size w w' := by
  by_cases h1 : 1 ≤ s.length
  · have d1 : decide ((s.length : Int) ≥ 1) = true := by simp; omega
    have d1' : decide (1 ≤ (s.length : Int)) = true := by simp; omega
    by_cases h2 : s.length ≤ 16
    · have d2 : decide ((s.length : Int) ≤ 16) = true := by simp; omega
      by_cases h3 : s = [46]
      · have HN := Lib.hid (pa.name_dot h3)
        subst h3
        go_enter Tryd.func41, Tryd.ntmps41
        go_wp2
        go_ret
        exact ⟨by rw [HN.out]; rfl, Below.refl _ _⟩
      · by_cases h4 : s = [46, 46]
        · have HN := Lib.hid (pa.name_dots h4)
          subst h4
          go_enter Tryd.func41, Tryd.ntmps41
          go_wp2
          go_ret
          exact ⟨by rw [HN.out]; rfl, Below.refl _ _⟩
        · have HN := Lib.hid (pa.name_ok h1 h2 h3 h4)
          have d3 : (s == [46]) = false := pa.str_no h3
          have d4 : (s == [46, 46]) = false := pa.str_no h4
          have d5 : (s != [46]) = true := pa.str_ne h3
          have d6 : (s != [46, 46]) = true := pa.str_ne h4
          have HC := Lib.hid (str_ContainsAny_any s w (by omega))
          clear h3 h4 h1
          go_enter Tryd.func41, Tryd.ntmps41
          go_wp2_with (go_at_call 52; refine HC.out.mono ?_; rintro e w2 ⟨rfl, hb2⟩)
          go_ret
          exact ⟨by rw [HN.out]; simp, hb2⟩
    · have HN := Lib.hid (pa.name_long h2)
      have d2 : decide ((s.length : Int) ≤ 16) = false := by simp; omega
      go_enter Tryd.func41, Tryd.ntmps41
      go_wp2
      go_ret
      exact ⟨by rw [HN.out]; rfl, Below.refl _ _⟩
  · have HN := Lib.hid (pa.name_short h1)
    have d1 : decide ((s.length : Int) ≥ 1) = false := by simp; omega
    have d1' : decide (1 ≤ (s.length : Int)) = false := by simp; omega
    go_enter Tryd.func41, Tryd.ntmps41
    go_wp2
    go_ret
    exact ⟨by rw [HN.out]; rfl, Below.refl _ _⟩

set_option maxHeartbeats 2000000 in
theorem ref_nameMay (s : List UInt8) (w : World) (hs : s.length ≤ 140737488351232) : Calls Tryd.prog 49 #[.string (strOf s)] w fun e w' => e = .returned (.bool (pa.name s)) ∧ Below w.heap.size w w' := by
  by_cases h1 : s.length = 0
  · have HN := Lib.hid (pa.name_short (s := s) (by omega))
    obtain rfl : s = [] := List.eq_nil_of_length_eq_zero h1
    go_enter Tryd.func49, Tryd.ntmps49
    go_wp2
    go_ret
    exact ⟨by rw [HN.out]; rfl, Below.refl _ _⟩
  · have d1 : ((s.length : Int) == 0) = false := beq_eq_false_iff_ne.2 (by omega)
    by_cases h2 : 16 < s.length
    · have HN := Lib.hid (pa.name_long (s := s) (by omega))
      have d2 : decide ((s.length : Int) > 16) = true := by simp; omega
      have d2' : decide (16 < (s.length : Int)) = true := by simp; omega
      go_enter Tryd.func49, Tryd.ntmps49
      go_wp2
      go_ret
      exact ⟨by rw [HN.out]; rfl, Below.refl _ _⟩
    · have d2 : decide ((s.length : Int) > 16) = false := by simp; omega
      have d2' : decide (16 < (s.length : Int)) = false := by simp; omega
      by_cases h3 : s = [46]
      · have HN := Lib.hid (pa.name_dot h3)
        subst h3
        go_enter Tryd.func49, Tryd.ntmps49
        go_wp2
        go_ret
        exact ⟨by rw [HN.out]; rfl, Below.refl _ _⟩
      · by_cases h4 : s = [46, 46]
        · have HN := Lib.hid (pa.name_dots h4)
          subst h4
          go_enter Tryd.func49, Tryd.ntmps49
          go_wp2
          go_ret
          exact ⟨by rw [HN.out]; rfl, Below.refl _ _⟩
        · have HN := Lib.hid (pa.name_ok (by omega) (by omega) h3 h4)
          have d3 : (s == [46]) = false := pa.str_no h3
          have d4 : (s == [46, 46]) = false := pa.str_no h4
          have h16 : s.length ≤ 16 := by omega
          clear h3 h4 hs h1 h2
          go_enter Tryd.func49, Tryd.ntmps49
          go_wp2
          go_loopw [3] (fun s3 wx => ∃ i : Nat, s3 = .int .i64 i ∧ i ≤ s.length ∧ Hid (pa.free (s.take i) = true) ∧ wx = w) (fun s3 _ => s.length - (intOf s3).toNat)
          case atStart => exact ⟨0, rfl, by omega, Lib.hid rfl, rfl⟩
          case round =>
            obtain ⟨i, rfl, hi, HF, rfl⟩ := hrel
            by_cases hlt : i < s.length
            · obtain ⟨x, hxe⟩ : ∃ x, x = s.getD i 0 := ⟨_, rfl⟩
              have hxi : ∀ h, s[i]'h = x := fun h => by rw [hxe, List.getD_eq_getElem?_getD, List.getElem?_eq_getElem h]; rfl
              have hlt' : (i : Int) < (s.length : Int) := by omega
              by_cases hok : pa.okB x = true
              · have HF2 := Lib.hid (pa.free_on (n := 1) HF.out (fun j h1 h2 => by obtain rfl : j = i := by omega
                                                                                   rw [← hxe]; exact hok))
                have hx := (pa.okB_iff x).1 hok
                obtain ⟨k0, k0'⟩ := pa.u8_no 0 hx.1 rfl
                obtain ⟨k1, k1'⟩ := pa.u8_no 47 hx.2 rfl
                clear hxe hok hx
                go_wp2
                go_roundw
                case rel => exact ⟨i + 1, by go_num, by omega, HF2, trivial⟩
                case measure => simp [intOf]; omega
              · have HF2 := Lib.hid (pa.free_not hlt (by rw [← hxe]; simpa using hok))
                rcases (by rw [pa.okB_iff] at hok; by_cases h : x = 0; exact .inl h; exact .inr (Classical.byContradiction fun h2 => hok ⟨h, h2⟩) : x = 0 ∨ x = 47) with e0 | e0
                all_goals
                  subst e0
                  clear hxe hok
                  go_wp2
                  go_ret
                  exact ⟨by rw [HN.out, HF2.out]; rfl, Below.refl _ _⟩
            · have HF2 := Lib.hid (pa.free_take HF.out (by omega))
              have hle : ¬ (i : Int) < (s.length : Int) := by omega
              go_wp2
              go_ret
              exact ⟨by rw [HN.out, HF2.out]; rfl, Below.refl _ _⟩

theorem pa.strOf_add (a b : List UInt8) : strOf a ++ strOf b = strOf (a ++ b) := by
  have h : (strOf a ++ strOf b).data.toList = a ++ b := by simp [strOf]
  rw [strOf_of (strOf a ++ strOf b), h]
/-! ### Names in a list -/
theorem pa.of_strs {l : List ByteArray} {k : Nat} (hk : k < l.length) : ∃ s : List UInt8, s = (l.getD k .empty).data.toList ∧ l.getD k .empty = strOf s := ⟨_, rfl, strOf_of _⟩
def pa.lists (l : List ByteArray) : List (List UInt8) := l.map (·.data.toList)
theorem pa.lists_at {l : List ByteArray} {k : Nat} (hk : k < l.length) : (pa.lists l).getD k [] = (l.getD k .empty).data.toList := by
  unfold pa.lists
  rw [List.getD_eq_getElem?_getD, List.getElem?_map, List.getElem?_eq_getElem hk, List.getD_eq_getElem?_getD, List.getElem?_eq_getElem hk]
  rfl
theorem pa.lists_len (l : List ByteArray) : (pa.lists l).length = l.length := by simp [pa.lists]
theorem pa.all_no {l : List (List UInt8)} {k : Nat} (hk : k < l.length) (h : pa.name (l.getD k []) = false) : l.all pa.name = false := by
  rw [List.all_eq_false]
  exact ⟨l.getD k [], by rw [List.getD_eq_getElem?_getD, List.getElem?_eq_getElem hk]; exact List.getElem_mem hk, by rw [h]; simp⟩
theorem pa.all_at {l : List (List UInt8)} (h : ∀ j, j < l.length → pa.name (l.getD j []) = true) : l.all pa.name = true := by
  rw [List.all_eq_true]
  intro s hs
  obtain ⟨j, hj, rfl⟩ := List.mem_iff_getElem.1 hs
  have := h j hj
  rwa [List.getD_eq_getElem?_getD, List.getElem?_eq_getElem hj] at this

set_option maxHeartbeats 400000 in
theorem path_fault1 (s : List UInt8) (w : World) (hs : s.length ≤ 140737488351232) : Calls Tryd.prog 63 #[.string (strOf s)] w fun e w' => e = .returned (.bool (! pa.name s)) ∧ Below w.heap.size w w' := by
  have HC := Lib.hid (path_Name s w)
  go_enter Tryd.func63, Tryd.ntmps63
  go_wp2_with (go_at_call 41; refine HC.out.mono ?_; rintro e w2 ⟨rfl, hb2⟩)
  go_ret
  exact ⟨rfl, hb2⟩

def pa.NIdx (b : Bool) (w : World) (e : Ending) (w' : World) : Prop := (∃ n : Int, e = .returned (.int .i64 n) ∧ -1 ≤ n ∧ n ≤ 9223372036854775807 ∧ (0 ≤ n ↔ b = false)) ∧ Below w.heap.size w w'
theorem pa.NIdx.mk {b : Bool} {w w' : World} {e : Ending} (n : Int) (h : e = .returned (.int .i64 n)) (h1 : -1 ≤ n ∧ n ≤ 9223372036854775807) (h2 : 0 ≤ n ↔ b = false) (hb : Below w.heap.size w w') : pa.NIdx b w e w' := ⟨⟨n, h, h1.1, h1.2, h2⟩, hb⟩
set_option maxHeartbeats 1000000 in
theorem strs_IndexFunc (l : List ByteArray) (A : Option Addr) (c : Nat) (w : World) (hl : SlRep Rep.str w (· < w.heap.size) l A c) (hn : l.length ≤ 140737488351232) (hs : ∀ s ∈ l, s.size ≤ 140737488351232) :
    Calls Tryd.prog 82 #[.slice A l.length c, .func (.func 63) #[] #[]] w (pa.NIdx ((pa.lists l).all pa.name) w) := by
  have HL := Lib.hid hl
  have HSZ := Lib.hid hs
  clear hl hs
  go_enter Tryd.func82, Tryd.ntmps82
  go_wp2
  go_loopw [5, 8] (fun _ i wr => ∃ k : Nat, k ≤ l.length ∧ i = .int .i64 k ∧ Hid (∀ j, j < k → pa.name ((pa.lists l).getD j []) = true) ∧ Below w.heap.size w wr) (fun _ i _ => l.length - (intOf i).toNat)
  case atStart => exact ⟨0, by omega, rfl, Lib.hid (fun j hj => by omega), Below.refl _ _⟩
  case round =>
    obtain ⟨k, hk, rfl, HA, hB⟩ := hrel
    rename World => wr
    by_cases hlt : k < l.length
    · obtain ⟨b, o, rfl, hb, hc1⟩ := str_at (HL.out.below hB) hlt
      have hbw : b < wr.heap.size := Nat.lt_of_lt_of_le hb hB.size
      obtain ⟨s, hs1, hs2⟩ := pa.of_strs hlt
      have hsz := HSZ.out (l.getD k .empty) (by rw [List.getD_eq_getElem?_getD, List.getElem?_eq_getElem hlt]; exact List.getElem_mem hlt)
      rw [hs2] at hc1 hsz
      rw [strOf_size] at hsz
      have HS : Hid ((pa.lists l).getD k [] = s) := Lib.hid (by rw [pa.lists_at hlt, hs1])
      clear hs1 hs2
      cases hnm : pa.name s with
      | true =>
        have HN : Hid (∀ j, j < k + 1 → pa.name ((pa.lists l).getD j []) = true) := Lib.hid (fun j hj => by
          rcases Nat.lt_or_ge j k with h' | h'
          · exact HA.out j h'
          · obtain rfl : j = k := by omega
            rw [HS.out]; exact hnm)
        go_wp2_with (go_at_call 63; ((with_reducible refine (path_fault1 s _ hsz).mono ?_); rw [hnm]; rintro e w2 ⟨rfl, hb2⟩))
        go_roundw
        case rel => exact ⟨k + 1, by omega, by go_num, HN, bnext hB hb2⟩
        case measure => simp [intOf]; omega
      | false =>
        have HF := Lib.hid (pa.all_no (l := pa.lists l) (k := k) (by rw [pa.lists_len]; exact hlt) (by rw [HS.out]; exact hnm))
        go_wp2_with (go_at_call 63; ((with_reducible refine (path_fault1 s _ hsz).mono ?_); rw [hnm]; rintro e w2 ⟨rfl, hb2⟩))
        go_ret
        exact pa.NIdx.mk k rfl (by omega) ⟨fun _ => HF.out, fun _ => by omega⟩ (bnext hB hb2)
    · obtain rfl : k = l.length := by omega
      have HT : Hid ((pa.lists l).all pa.name = true) := Lib.hid (pa.all_at (by rw [pa.lists_len]; exact HA.out))
      clear HA HL
      go_wp2
      go_ret
      exact pa.NIdx.mk (-1) rfl (by omega) ⟨fun h => by omega, fun h => by rw [HT.out] at h; cases h⟩ hB
set_option maxHeartbeats 400000 in
theorem strs_ContainsFunc (l : List ByteArray) (A : Option Addr) (c : Nat) (w : World) (hl : SlRep Rep.str w (· < w.heap.size) l A c) (hn : l.length ≤ 140737488351232) (hs : ∀ s ∈ l, s.size ≤ 140737488351232) :
    Calls Tryd.prog 62 #[.slice A l.length c, .func (.func 63) #[] #[]] w fun e w' => e = .returned (.bool (! (pa.lists l).all pa.name)) ∧ Below w.heap.size w w' := by
  have HI := Lib.hid (strs_IndexFunc l A c w hl hn hs)
  clear hl hs
  generalize (pa.lists l).all pa.name = b at *
  go_enter Tryd.func62, Tryd.ntmps62
  go_wp2_with (go_at_call 82; refine HI.out.mono ?_; rintro e w2 ⟨⟨n, rfl, h1, h2, h3⟩, hb2⟩)
  go_ret
  refine ⟨?_, hb2⟩
  cases b <;> rfl
theorem pa.fault_many {l : List (List UInt8)} (h : 12 < l.length) : pa.fault l = 9 := if_pos h
theorem pa.fault_ok {l : List (List UInt8)} (h : ¬ 12 < l.length) (h2 : l.all pa.name = true) : pa.fault l = 0 := by unfold pa.fault; rw [if_neg h, if_pos h2]
theorem pa.fault_form {l : List (List UInt8)} (h : ¬ 12 < l.length) (h2 : l.all pa.name = false) : pa.fault l = 4 := by unfold pa.fault; rw [if_neg h, if_neg (by rw [h2]; simp)]
set_option maxHeartbeats 1000000 in
theorem path_fault (l : List ByteArray) (A : Option Addr) (c : Nat) (w : World) (hl : SlRep Rep.str w (· < w.heap.size) l A c) (hn : l.length ≤ 140737488351232) (hs : ∀ s ∈ l, s.size ≤ 140737488351232) :
    Calls Tryd.prog 53 #[.slice A l.length c] w fun e w' => e = .returned (.int .i64 (pa.fault (pa.lists l))) ∧ Below w.heap.size w w' := by
  have HC := Lib.hid (strs_ContainsFunc l A c w hl hn hs)
  clear hl hs
  by_cases h : 12 < l.length
  · have d1 : decide ((l.length : Int) > 12) = true := by simp; omega
    have d1' : decide (12 < (l.length : Int)) = true := by simp; omega
    have HN := Lib.hid (pa.fault_many (l := pa.lists l) (by rw [pa.lists_len]; exact h))
    go_enter Tryd.func53, Tryd.ntmps53
    go_wp2
    go_ret
    exact ⟨by rw [HN.out]; rfl, Below.refl _ _⟩
  · have d1 : decide ((l.length : Int) > 12) = false := by simp; omega
    have d1' : decide (12 < (l.length : Int)) = false := by simp; omega
    have h' : ¬ 12 < (pa.lists l).length := by rw [pa.lists_len]; exact h
    cases ha : (pa.lists l).all pa.name with
    | true =>
      have HN := Lib.hid (pa.fault_ok h' ha)
      clear h h'
      go_enter Tryd.func53, Tryd.ntmps53
      go_wp2_with (go_at_call 62; refine HC.out.mono ?_; rw [ha]; rintro e w2 ⟨rfl, hb2⟩)
      go_ret
      exact ⟨by rw [HN.out]; rfl, hb2⟩
    | false =>
      have HN := Lib.hid (pa.fault_form h' ha)
      clear h h'
      go_enter Tryd.func53, Tryd.ntmps53
      go_wp2_with (go_at_call 62; refine HC.out.mono ?_; rw [ha]; rintro e w2 ⟨rfl, hb2⟩)
      go_ret
      exact ⟨by rw [HN.out]; rfl, hb2⟩
set_option maxHeartbeats 1000000 in
theorem ref_namesFault (l : List ByteArray) (A : Option Addr) (c : Nat) (w : World) (hl : SlRep Rep.str w (· < w.heap.size) l A c) (hn : l.length ≤ 140737488351232) (hs : ∀ s ∈ l, s.size ≤ 140737488351232) :
    Calls Tryd.prog 50 #[.slice A l.length c] w fun e w' => e = .returned (.int .i64 (pa.fault (pa.lists l))) ∧ Below w.heap.size w w' := by
  have HL := Lib.hid hl
  have HSZ := Lib.hid hs
  clear hl hs
  by_cases h : 12 < l.length
  · have d1 : decide ((l.length : Int) > 12) = true := by simp; omega
    have d1' : decide (12 < (l.length : Int)) = true := by simp; omega
    have HN := Lib.hid (pa.fault_many (l := pa.lists l) (by rw [pa.lists_len]; exact h))
    go_enter Tryd.func50, Tryd.ntmps50
    go_wp2
    go_ret
    exact ⟨by rw [HN.out]; rfl, Below.refl _ _⟩
  · have d1 : decide ((l.length : Int) > 12) = false := by simp; omega
    have d1' : decide (12 < (l.length : Int)) = false := by simp; omega
    have h' : ¬ 12 < (pa.lists l).length := by rw [pa.lists_len]; exact h
    have HOK := Lib.hid (fun ha => pa.fault_ok h' ha)
    have HNO := Lib.hid (fun ha => pa.fault_form h' ha)
    clear h h'
    go_enter Tryd.func50, Tryd.ntmps50
    go_wp2
    go_loopw [4, 10] (fun _ i wr => ∃ k : Nat, k ≤ l.length ∧ i = .int .i64 k ∧ Hid (∀ j, j < k → pa.name ((pa.lists l).getD j []) = true) ∧ Below w.heap.size w wr) (fun _ i _ => l.length - (intOf i).toNat)
    case atStart => exact ⟨0, by omega, rfl, Lib.hid (fun j hj => by omega), Below.refl _ _⟩
    case round =>
      obtain ⟨k, hk, rfl, HA, hB⟩ := hrel
      rename World => wr
      by_cases hlt : k < l.length
      · obtain ⟨b, o, rfl, hb, hc1⟩ := str_at (HL.out.below hB) hlt
        have hbw : b < wr.heap.size := Nat.lt_of_lt_of_le hb hB.size
        obtain ⟨s, hs1, hs2⟩ := pa.of_strs hlt
        have hsz := HSZ.out (l.getD k .empty) (by rw [List.getD_eq_getElem?_getD, List.getElem?_eq_getElem hlt]; exact List.getElem_mem hlt)
        rw [hs2] at hc1 hsz
        rw [strOf_size] at hsz
        have HS : Hid ((pa.lists l).getD k [] = s) := Lib.hid (by rw [pa.lists_at hlt, hs1])
        clear hs1 hs2
        cases hnm : pa.name s with
        | true =>
          have HN : Hid (∀ j, j < k + 1 → pa.name ((pa.lists l).getD j []) = true) := Lib.hid (fun j hj => by
            rcases Nat.lt_or_ge j k with h' | h'
            · exact HA.out j h'
            · obtain rfl : j = k := by omega
              rw [HS.out]; exact hnm)
          go_wp2_with (go_at_call 49; ((with_reducible refine (ref_nameMay s _ hsz).mono ?_); rw [hnm]; rintro e w2 ⟨rfl, hb2⟩))
          go_roundw
          case rel => exact ⟨k + 1, by omega, by go_num, HN, bnext hB hb2⟩
          case measure => simp [intOf]; omega
        | false =>
          have HF := Lib.hid (HNO.out (pa.all_no (l := pa.lists l) (k := k) (by rw [pa.lists_len]; exact hlt) (by rw [HS.out]; exact hnm)))
          go_wp2_with (go_at_call 49; ((with_reducible refine (ref_nameMay s _ hsz).mono ?_); rw [hnm]; rintro e w2 ⟨rfl, hb2⟩))
          go_ret
          exact ⟨by rw [HF.out]; rfl, bnext hB hb2⟩
      · obtain rfl : k = l.length := by omega
        have HT := Lib.hid (HOK.out (pa.all_at (by rw [pa.lists_len]; exact HA.out)))
        clear HA HL HOK HNO
        go_wp2
        go_ret
        exact ⟨by rw [HT.out]; rfl, hB⟩
end Go.Proofs.YtlcjdlnhniemcaaDoor
