/- Package path: walk. No condition. -/
import Derived.Test.YtlcjdlnhniemcaaDoorSplit
import Derived.Test.YtlcjdlnhniemcaaDoorPath3
import Derived.Test.YtlcjdlnhniemcaaDoorMgA
import Derived.Laws.ResultCell
import Derived.Lib.AppendZerosOnto
namespace Go.Proofs.YtlcjdlnhniemcaaDoor
open Go.RowKit Go.Shelf

def pa.sv (p : List UInt8) : Value := .string (strOf p)
theorem pa.sv_lists (l : List ByteArray) : (pa.lists l).map pa.sv = l.map Value.string := by
  unfold pa.lists
  rw [List.map_map]
  exact List.map_congr_left fun s _ => by show Value.string (strOf s.data.toList) = _; rw [← strOf_of]
def StrsRes (r : Except Int (List (List UInt8))) (w : World) (e : Ending) (w' : World) : Prop :=
  ∃ A c, e = .returned (.tuple #[.slice A (exL r).length c, .int .i64 (exC r)]) ∧ Own w' w.heap.size 9 1 A (exL r).length c ((exL r).map pa.sv) ∧ Below w.heap.size w w'
theorem pa.own_front {w : World} {base e n c : Nat} {A : Option Addr} {xs : List Value} (h : Own w base e 1 A n c xs) {k : Nat} (hk : k ≤ n) : Own w base e 1 A k c (xs.take k) := by
  have hl := h.len
  refine ⟨by rw [List.length_take]; omega, ?_⟩
  rcases h.2 with ⟨h1, h2⟩ | ⟨g, cap, cur, h1, h2, h3, h4, h5, h6, h7⟩
  · simp only [Value.slice.injEq] at h1
    exact .inl ⟨by rw [h1.1, h1.2.2, show k = 0 by omega], by omega⟩
  · simp only [Value.slice.injEq] at h1
    exact .inr ⟨g, cap, cur, by rw [h1.1, h1.2.2], h2, h3, by omega, h5, h6, by rw [← h7, List.take_take]; congr 1; omega⟩
theorem pa.one (l : List (List UInt8)) : ∀ u ∈ l.map pa.sv, u.oneCell' = true := by
  intro u hu
  obtain ⟨p, _, rfl⟩ := List.mem_map.1 hu
  rfl
theorem pa.str_cells {w : World} {S : Nat → Prop} {l : List ByteArray} {A : Option Addr} {c : Nat} (h : SlRep Rep.str w S l A c) : Cells w A (l.map Value.string) := by
  rcases h.2.2 with rfl | ⟨b, o, rfl, hb, hr⟩
  · exact .inl rfl
  · refine .inr ⟨b, o, rfl, fun j u hu => ?_⟩
    rw [List.getElem?_map] at hu
    cases hj : l[j]? with
    | none => rw [hj] at hu; cases hu
    | some s =>
      rw [hj] at hu
      cases hu
      obtain ⟨cs, hcs, hc⟩ := hr j s hj
      subst hcs
      have := hc 0 _ rfl
      simpa [Rep.str] using this

set_option maxHeartbeats 1000000 in
/-- Clone, of cells: a list of strings in memory -/
theorem clone_strs (xs : List Value) (n : Nat) (A : Option Addr) (c : Nat) (w : World) (hc : ∀ w', Below w.heap.size w w' → Cells w' A xs) (hx : xs.length = n) (h1 : ∀ u ∈ xs, u.oneCell' = true) (hn : n ≤ 1048576) (hnil : A = none → n = 0) :
    Calls Tryd.prog 39 #[.slice A n c] w fun e w' => ∃ A' c', e = .returned (.slice A' n c') ∧ Own w' w.heap.size 9 1 A' n c' xs ∧ Below w.heap.size w w' := by
  cases A with
  | none =>
    obtain rfl : n = 0 := hnil rfl
    obtain rfl : xs = [] := List.eq_nil_of_length_eq_zero hx
    have hq := Lib.run_eql_slice_nil (P := Tryd.prog) w 29 9 none 0 c 0 0 Tryd.underlying29
    simp only [Option.isNone] at hq
    clear hc h1 hnil
    go_enter Tryd.func39, Tryd.ntmps39
    go_wp2
    go_ret
    exact ⟨none, 0, rfl, Own.nil _ _ _ _, bself w⟩
  | some a =>
    have HC := Lib.hid hc
    have HX : Hid (xs.length = n * 1) := Lib.hid (by omega)
    have H1 := Lib.hid h1
    clear hc hx h1 hnil
    have hq := Lib.run_eql_slice_nil (P := Tryd.prog) w 29 9 (some a) n c 0 0 Tryd.underlying29
    simp only [Option.isNone] at hq
    go_enter Tryd.func39, Tryd.ntmps39
    go_wp2_with (at_builtin; refine wp_app _ rfl _ _ _ rfl elemStr w.heap.size _ 0 0 [] rfl (Own.lit w w.heap.size _ 1 0 [] (Nat.le_refl _) rfl (by decide)) _ n _ xs rfl HX.out (HC.out _ (balloc (bself w) _)) H1.out (by omega) (by unfold maxLen; omega) (by simp) ?_; intro A3 c3 w4 hO4 hg4; have HO4 := Lib.hid hO4; clear hO4)
    go_ret
    exact ⟨A3, c3, by simp, by simpa using HO4.out, Grew.step (balloc (bself w) _) hg4 (fun k hk => by cases hk; exact Nat.le_refl _)⟩

theorem splitSeq_in (n : Nat) (s : ByteArray) (w : World) :
    CallsIn Fence.wide n Tryd.prog 51 #[.string s, .string ⟨#[47]⟩, .int .i64 0] w fun e w' =>
      e = .returned (.func (.func 58) #[] #[.pointer (some ⟨w.heap.size + 1, 0, none⟩), .pointer (some ⟨w.heap.size, 0, none⟩), .pointer (some ⟨w.heap.size + 1 + 1, 0, none⟩)]) ∧
      w' = ((w.alloc (.cells #[.string s] 9)).alloc (.cells #[.string ⟨#[47]⟩] 9)).alloc (.cells #[.int .i64 0] 3) := by
  refine callsIn_of_wp Tryd.func51 rfl trivial ?_ rfl
  simp only [Tryd.ntmps51, List.size_toArray, List.length_cons, List.length_nil, Nat.reduceAdd, Nat.reduceSub, Array.replicate_succ, Array.replicate_zero, List.push_toArray, List.append_toArray, List.nil_append, List.cons_append]
  gi_wp2
  go_ret
  exact ⟨rfl, rfl⟩
theorem SplitSeq_in (n : Nat) (hn : 1 ≤ n) (s : ByteArray) (w : World) :
    CallsIn Fence.wide n Tryd.prog 40 #[.string s, .string ⟨#[47]⟩] w fun e w' =>
      e = .returned (.func (.func 58) #[] #[.pointer (some ⟨w.heap.size + 1, 0, none⟩), .pointer (some ⟨w.heap.size, 0, none⟩), .pointer (some ⟨w.heap.size + 1 + 1, 0, none⟩)]) ∧
      w' = ((w.alloc (.cells #[.string s] 9)).alloc (.cells #[.string ⟨#[47]⟩] 9)).alloc (.cells #[.int .i64 0] 3) := by
  refine callsIn_of_wp Tryd.func40 rfl trivial ?_ rfl
  simp only [Tryd.ntmps40, List.size_toArray, List.length_cons, List.length_nil, Nat.reduceAdd, Nat.reduceSub, Array.replicate_succ, Array.replicate_zero, List.push_toArray, List.append_toArray, List.nil_append, List.cons_append]
  gi_wp2_with (refine ⟨trivial, ?_⟩; gi_at_call 51; refine (splitSeq_in _ s _).mono ?_; rintro e w' ⟨rfl, rfl⟩)
  go_ret
  exact ⟨rfl, rfl⟩
end Go.Proofs.YtlcjdlnhniemcaaDoor
