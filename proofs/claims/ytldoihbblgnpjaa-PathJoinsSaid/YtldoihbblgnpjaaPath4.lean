/- Package path: Join; the law PathJoins. No condition. -/
import Derived.Test.YtldoihbblgnpjaaPath3
import Derived.Shelf.Strings.OnBuilder
import Derived.Lib.Join
namespace Go.Proofs.Ytldoihbblgnpjaa
open Go.RowKit

theorem pa.builder : Builder.Extra Try.prog sh156_ren := {
  sizeBuilder := by kernel_rfl
  liesBuilder := by kernel_rfl
  t5 := Try.underlying5
  a5 := Try.isAgg5
  z5 := Try.sizeOf5
  v5 := Try.zeroValue5
  infoByte := by kernel_rfl
  cellsByte := by kernel_rfl
  sizeByte := by kernel_rfl
  neB5 := by decide }

theorem pa.join_snoc (l : List (List UInt8)) (s : List UInt8) : pa.join (l ++ [s]) = pa.join l ++ 47 :: s := by simp [pa.join]
theorem pa.join_from (acc : List UInt8) (l : List (List UInt8)) : l.foldl (fun a s => a ++ 47 :: s) acc = acc ++ Lib.joinTail [47] l := by
  induction l generalizing acc with
  | nil => simp [Lib.joinTail]
  | cons s r ih =>
    rw [List.foldl_cons, ih]
    simp [Lib.joinTail]
theorem pa.join_tail (l : List (List UInt8)) : pa.join l = Lib.joinTail [47] l := by
  unfold pa.join
  rw [pa.join_from]
  rfl
theorem pa.join_lib (x : List UInt8) (l : List (List UInt8)) : pa.join (x :: l) = 47 :: Lib.join (x :: l) [47] := by
  rw [pa.join_tail, Lib.join_cons]
  simp [Lib.joinTail]
theorem pa.joined_eq (l : List (List UInt8)) : pa.joined l = 47 :: Lib.join l [47] := by
  cases l with
  | nil => rfl
  | cons x l =>
    unfold pa.joined
    rw [pa.join_lib, if_neg (by simp)]
theorem pa.join_len (l : List (List UInt8)) (h : l.all pa.name = true) : (pa.join l).length ≤ 17 * l.length := by
  rw [pa.join_tail]
  rw [List.all_eq_true] at h
  induction l with
  | nil => simp [Lib.joinTail]
  | cons s r ih =>
    have h1 := ih (fun x hx => h x (List.mem_cons_of_mem _ hx))
    have h2 := ((pa.name_iff s).1 (h s (List.mem_cons_self ..))).2.1
    unfold Lib.joinTail at h1 ⊢
    simp only [List.map_cons, List.flatten_cons, List.length_append, List.length_cons, List.length_nil] at *
    omega
theorem pa.strOf_add (a b : List UInt8) : strOf a ++ strOf b = strOf (a ++ b) := by
  have h : (strOf a ++ strOf b).data.toList = a ++ b := by simp [strOf]
  rw [strOf_of (strOf a ++ strOf b), h]
theorem pa.fault_split (l : List (List UInt8)) (h : pa.fault l = 0) : l.length ≤ 12 ∧ l.all pa.name = true := by
  unfold pa.fault at h
  split at h
  · cases h
  · split at h
    · exact ⟨by omega, by assumption⟩
    · cases h
def pa.joinOut (l : List (List UInt8)) : List UInt8 := if pa.fault l = 0 then pa.joined l else []
theorem pa.joinOut_ok {l : List (List UInt8)} (h : pa.fault l = 0) : pa.joinOut l = pa.joined l := if_pos h
theorem pa.joinOut_no {l : List (List UInt8)} (h : ¬ pa.fault l = 0) : pa.joinOut l = [] := if_neg h

theorem pa.lists_cons (x : ByteArray) (l : List ByteArray) : pa.lists (x :: l) = x.data.toList :: pa.lists l := rfl
theorem str_Join (l : List ByteArray) (A : Option Addr) (c : Nat) (w : World) (hl : SlRep Rep.str w (· < w.heap.size) l A c) (hn : l.length ≤ 140737488351232) (hj : (Lib.join (pa.lists l) [47]).length ≤ 140737488351232) :
    Calls Try.prog 21 #[.slice A l.length c, .string ⟨#[47]⟩] w fun e w' => e = .returned (.string (strOf (Lib.join (pa.lists l) [47]))) ∧ Below w.heap.size w w' := by
  cases l with
  | nil =>
    refine (Any.strings_Join_none sh156 pa.builder A c ⟨#[47]⟩ w).mono ?_
    rintro e w' ⟨he, hw⟩
    exact ⟨he, by rw [hw]; exact Below.refl _ _⟩
  | cons x r =>
    obtain ⟨b, o, rfl, hb, _⟩ := str_at hl (k := 0) (by simp)
    refine (Any.strings_Join sh156 pa.builder b o c (x :: r) ⟨#[47]⟩ w (fun j y hy => ?_) hb (by omega) hl.1 (by show (Lib.join (pa.lists (x :: r)) [47]).length ≤ _; omega)).mono ?_
    · have hj : j < (x :: r).length := (List.getElem?_eq_some_iff.1 hy).1
      obtain ⟨b', o', e1, _, hc⟩ := str_at hl hj
      cases e1
      rw [hc, List.getD_eq_getElem?_getD, hy]
      rfl
    · rintro e w' ⟨he, hb'⟩
      exact ⟨he, hb'⟩

set_option maxHeartbeats 1000000 in
theorem path_Join (l : List ByteArray) (A : Option Addr) (c : Nat) (w : World) (hl : SlRep Rep.str w (· < w.heap.size) l A c) (hn : l.length ≤ 140737488351232) (hs : ∀ s ∈ l, s.size ≤ 140737488351232) :
    Calls Try.prog 14 #[.slice A l.length c] w fun e w' => e = .returned (.tuple #[.string (strOf (pa.joinOut (pa.lists l))), .int .i64 (pa.fault (pa.lists l))]) ∧ Below w.heap.size w w' := by
  have HF := Lib.hid (path_fault l A c w hl hn hs)
  have HL := Lib.hid hl
  clear hl hs
  by_cases hf : pa.fault (pa.lists l) = 0
  · have hsp := pa.fault_split _ hf
    rw [pa.lists_len] at hsp
    have hjl := pa.join_len _ hsp.2
    rw [pa.lists_len] at hjl
    have HO : Hid (pa.joinOut (pa.lists l) = 47 :: Lib.join (pa.lists l) [47]) := Lib.hid (by rw [pa.joinOut_ok hf, pa.joined_eq])
    have hJ : (Lib.join (pa.lists l) [47]).length ≤ 300 := by
      cases hc : pa.lists l with
      | nil => simp [Lib.join_nil]
      | cons x r =>
        rw [hc, pa.join_lib, List.length_cons] at hjl
        omega
    have HJ := fun w2 (hb : Below w.heap.size w w2) => Lib.hid (str_Join l A c w2 (HL.out.next hb) hn (by omega))
    generalize pa.fault (pa.lists l) = er at *
    subst hf
    generalize pa.joinOut (pa.lists l) = o at *
    generalize Lib.join (pa.lists l) [47] = J at *
    have hadd : ∀ w, (Op.stringOp .add ⟨#[47]⟩ (strOf J)).run Try.prog w = .ok (.string (strOf (47 :: J))) w := fun w => by
      rw [run_string_add_sum _ _ _ (by rw [strOf_size]; show 1 + _ ≤ _; omega)]
      exact congrArg (fun s => Result.ok (Value.string s) w) (pa.strOf_add [47] J)
    clear hsp hjl
    go_enter Try.func14, Try.ntmps14
    go_wp2_with (first
      | (go_at_call 20; refine HF.out.mono ?_; rintro e w2 ⟨rfl, hb2⟩)
      | (go_at_call 21; refine (HJ _ hb2).out.mono ?_; rintro e w3 ⟨rfl, hb3⟩)
      | fail)
    go_ret2
    exact ⟨by rw [HO.out]; rfl, bnext hb2 hb3⟩
  · have d1 : (pa.fault (pa.lists l) == 0) = false := beq_eq_false_iff_ne.2 hf
    have d2 : (pa.fault (pa.lists l) != 0) = true := bne_iff_ne.2 hf
    have HO := Lib.hid (pa.joinOut_no hf)
    generalize pa.fault (pa.lists l) = er at *
    generalize pa.joinOut (pa.lists l) = o at *
    clear hf
    go_enter Try.func14, Try.ntmps14
    go_wp2_with (go_at_call 20; refine HF.out.mono ?_; rintro e w2 ⟨rfl, hb2⟩)
    go_ret2
    exact ⟨by rw [HO.out]; rfl, hb2⟩

theorem pa.take_snoc {l : List ByteArray} {k : Nat} (hk : k < l.length) : (pa.lists l).take (k + 1) = (pa.lists l).take k ++ [(l.getD k .empty).data.toList] := by
  rw [List.take_add_one, ← pa.lists_at hk, List.getD_eq_getElem?_getD, List.getElem?_eq_getElem (by rw [pa.lists_len]; exact hk)]
  rfl
theorem pa.mem_at {l : List ByteArray} {k : Nat} (hk : k < l.length) : l.getD k .empty ∈ l := by
  rw [List.getD_eq_getElem?_getD, List.getElem?_eq_getElem hk]
  exact List.getElem_mem hk
theorem pa.add_run {a b : List UInt8} (h : a.length + b.length ≤ 9223372036854775807) (w : World) : (Op.stringOp .add (strOf a) (strOf b)).run Try.prog w = .ok (.string (strOf (a ++ b))) w := by
  rw [run_string_add_sum _ _ _ (by rw [strOf_size, strOf_size]; exact h), pa.strOf_add]

set_option maxHeartbeats 2000000 in
theorem ref_PathJoin (l : List ByteArray) (A : Option Addr) (c : Nat) (w : World) (hl : SlRep Rep.str w (· < w.heap.size) l A c) (hn : l.length ≤ 140737488351232) (hs : ∀ s ∈ l, s.size ≤ 140737488351232) :
    Calls Try.prog 15 #[.slice A l.length c] w fun e w' => e = .returned (.tuple #[.string (strOf (pa.joinOut (pa.lists l))), .int .i64 (pa.fault (pa.lists l))]) ∧ Below w.heap.size w w' := by
  have HF := Lib.hid (ref_namesFault l A c w hl hn hs)
  have HL := Lib.hid hl
  clear hl hs
  by_cases hf : pa.fault (pa.lists l) = 0
  · have hsp := pa.fault_split _ hf
    rw [pa.lists_len] at hsp
    have h12 := hsp.1
    have HO : Hid (pa.joinOut (pa.lists l) = pa.joined (pa.lists l)) := Lib.hid (pa.joinOut_ok hf)
    have HSZ : Hid (∀ k, k < l.length → (l.getD k .empty).data.toList.length ≤ 16) := Lib.hid (fun k hk => by
      have h := hsp.2
      rw [List.all_eq_true] at h
      exact ((pa.name_iff _).1 (h _ (List.mem_map_of_mem (pa.mem_at hk)))).2.1)
    generalize pa.fault (pa.lists l) = er at *
    subst hf
    generalize pa.joinOut (pa.lists l) = jo at *
    clear hsp
    go_enter Try.func15, Try.ntmps15
    go_wp2_with (go_at_call 22; refine HF.out.mono ?_; rintro e w2 ⟨rfl, hb2⟩)
    go_loopw [5, 7, 15] (fun s5 _ s15 wr => ∃ (k : Nat) (o : List UInt8), s5 = .string (strOf o) ∧ s15 = .int .i64 k ∧ k ≤ l.length ∧ o.length ≤ 17 * k ∧ Hid (o = pa.join ((pa.lists l).take k)) ∧ wr = w2) (fun _ _ s15 _ => l.length - (intOf s15).toNat)
    case atStart => exact ⟨0, [], rfl, rfl, by omega, by simp, Lib.hid rfl, rfl⟩
    case round =>
      obtain ⟨k, o, rfl, rfl, hk, hol, HOE, rfl⟩ := hrel
      by_cases hlt : k < l.length
      · obtain ⟨b, o1, rfl, hb, hc1⟩ := str_at (HL.out.next hb2) hlt
        obtain ⟨s, hs1, hs2⟩ := pa.of_strs hlt
        have hsz := HSZ.out k hlt
        rw [← hs1] at hsz
        rw [hs2] at hc1
        have HN : Hid (o ++ 47 :: s = pa.join ((pa.lists l).take (k + 1))) := Lib.hid (by rw [pa.take_snoc hlt, pa.join_snoc, ← HOE.out, ← hs1])
        have ha1 : ∀ w, (Op.stringOp .add ⟨#[47]⟩ (strOf s)).run Try.prog w = .ok (.string (strOf (47 :: s))) w := pa.add_run (a := [47]) (b := s) (by simp; omega)
        have ha2 : ∀ w, (Op.stringOp .add (strOf o) (strOf (47 :: s))).run Try.prog w = .ok (.string (strOf (o ++ 47 :: s))) w := pa.add_run (by simp; omega)
        clear hs1 hs2
        go_wp2
        go_roundw
        case rel => exact ⟨k + 1, o ++ 47 :: s, rfl, by go_num, by omega, by simp; omega, HN, trivial⟩
        case measure => simp [intOf]; omega
      · obtain rfl : k = l.length := by omega
        have hoe := HOE.out
        rw [List.take_of_length_le (by rw [pa.lists_len]; exact Nat.le_refl _)] at hoe
        by_cases ho : o = []
        · have HX : Hid (jo = [47]) := Lib.hid (by rw [HO.out]; unfold pa.joined; rw [← hoe, if_pos ho])
          subst ho
          clear hoe
          go_wp2
          go_ret2
          exact ⟨by rw [HX.out]; rfl, hb2⟩
        · have HX : Hid (jo = o) := Lib.hid (by rw [HO.out]; unfold pa.joined; rw [← hoe, if_neg ho])
          have hq : (o == []) = false := beq_eq_false_iff_ne.2 ho
          have hq2 : o.isEmpty = false := by cases o with | nil => exact absurd rfl ho | cons a t => rfl
          clear hoe ho
          go_wp2
          go_ret2
          exact ⟨by rw [HX.out]; rfl, hb2⟩
  · have d1 : (pa.fault (pa.lists l) == 0) = false := beq_eq_false_iff_ne.2 hf
    have d2 : (pa.fault (pa.lists l) != 0) = true := bne_iff_ne.2 hf
    have HO := Lib.hid (pa.joinOut_no hf)
    generalize pa.fault (pa.lists l) = er at *
    generalize pa.joinOut (pa.lists l) = o at *
    clear hf
    go_enter Try.func15, Try.ntmps15
    go_wp2_with (go_at_call 22; refine HF.out.mono ?_; rintro e w2 ⟨rfl, hb2⟩)
    go_ret2
    exact ⟨by rw [HO.out]; rfl, hb2⟩

set_option maxHeartbeats 1000000 in
theorem lawPathJoins_walk {w : World} (l : List ByteArray) (A : Option Addr) (c : Nat) (hl : SlRep Rep.str w (· < w.heap.size) l A c) (hok : AllOk 16 StrOk l) :
    Calls Try.prog 6 #[.slice A l.length c] w fun e w' => e = .returned (.bool true) ∧ Below w.heap.size w w' := by
  have hn : l.length ≤ 140737488351232 := by have := hok.2; omega
  have hs : ∀ s ∈ l, s.size ≤ 140737488351232 := fun s h => hok.1 s h
  have H1 := Lib.hid (path_Join l A c w hl hn hs)
  have H2 := fun w1 (hb : Below w.heap.size w w1) => Lib.hid (ref_PathJoin l A c w1 (hl.next hb) hn hs)
  clear hok hl hs
  generalize pa.joinOut (pa.lists l) = o at *
  generalize pa.fault (pa.lists l) = er at *
  go_enter Try.func6, Try.ntmps6
  go_wp2_with fail
  refine H1.out.mono ?_
  rintro e w1 ⟨rfl, hb1⟩
  go_wp2_with fail
  refine (H2 w1 hb1).out.mono ?_
  rintro e w2 ⟨rfl, hb2⟩
  go_wp2
  go_ret
  exact ⟨by simp, bnext hb1 hb2⟩
end Go.Proofs.Ytldoihbblgnpjaa
