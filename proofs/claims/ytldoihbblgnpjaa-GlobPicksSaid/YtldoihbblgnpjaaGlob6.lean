/- Package glob: May, Match, Pick. No condition. -/
import Derived.Test.YtldoihbblgnpjaaGlob5
import Derived.Test.YtldoihbblgnpjaaTexts
namespace Go.Proofs.Ytldoihbblgnpjaa
open Go.RowKit

def gl.bytes (s : ByteArray) : List UInt8 := s.data.toList
theorem gl.of_bytes (s : ByteArray) : strOf (gl.bytes s) = s := (strOf_of s).symm
def gl.longs (l : List ByteArray) : Bool := l.any fun s => decide (200 < (gl.bytes s).length)
def gl.picks (is : List gl.Item) (l : List ByteArray) : List ByteArray := l.filter fun s => gl.matches_ is (gl.bytes s)
def gl.pickOut (p : List UInt8) (l : List ByteArray) : List ByteArray :=
  match gl.parse p with
  | none => []
  | some is => if 64 < l.length ∨ gl.longs l = true then [] else gl.picks is l
def gl.pickCode (p : List UInt8) (l : List ByteArray) : Int :=
  match gl.parse p with
  | none => 4
  | some _ => if 64 < l.length ∨ gl.longs l = true then 1 else 0
def gl.matchOut (p n : List UInt8) : Bool :=
  match gl.parse p with
  | none => false
  | some is => if 200 < n.length then false else gl.matches_ is n
def gl.matchCode (p n : List UInt8) : Int :=
  match gl.parse p with
  | none => 4
  | some _ => if 200 < n.length then 1 else 0
def gl.PickRes (o : List ByteArray) (code : Int) (w : World) (e : Ending) (w' : World) : Prop :=
  ∃ A c, e = .returned (.tuple #[.slice A o.length c, .int .i64 code]) ∧ Own w' w.heap.size 9 1 A o.length c (o.map Value.string) ∧ Below w.heap.size w w'
theorem gl.PickRes.no {w w' : World} {e : Ending} {n : Int} (h : e = .returned (.tuple #[.slice none 0 0, .int .i64 n])) (hb : Below w.heap.size w w') : gl.PickRes [] n w e w' := ⟨none, 0, h, Own.nil _ _ _ _, hb⟩
theorem gl.parse_some {p : List UInt8} {l : List gl.Item} (h : gl.parse p = some l) : (gl.parse p).isSome = true := by rw [h]; rfl
theorem gl.parse_none {p : List UInt8} (h : gl.parse p = none) : (gl.parse p).isSome = false := by rw [h]; rfl

set_option maxHeartbeats 400000 in
theorem glob_May (p : List UInt8) (w : World) (hp : p.length ≤ 140737488351232) : Calls Try.prog 7 #[.string (strOf p)] w fun e w' => e = .returned (.bool (gl.parse p).isSome) ∧ Below w.heap.size w w' := by
  go_enter Try.func7, Try.ntmps7
  go_wp2_with fail
  refine (glob_parts p w hp).mono ?_
  rintro e w1 ⟨⟨A, n, c, rfl, _⟩, hb⟩
  go_wp2
  go_ret
  exact ⟨rfl, hb⟩
set_option maxHeartbeats 1000000 in
theorem glob_Match (p n : List UInt8) (w : World) (hp : p.length ≤ 140737488351232) (hn : n.length ≤ 140737488351232) :
    Calls Try.prog 9 #[.string (strOf p), .string (strOf n)] w fun e w' => e = .returned (.tuple #[.bool (gl.matchOut p n), .int .i64 (gl.matchCode p n)]) ∧ Below w.heap.size w w' := by
  have HPR := Lib.hid (glob_parts p w hp)
  clear hp
  go_enter Try.func9, Try.ntmps9
  go_wp2_with fail
  refine HPR.out.mono ?_
  rintro e w1 ⟨⟨A, m, c, rfl, hok⟩, hb⟩
  have HOK := Lib.hid hok
  have HB := Lib.hid hb
  clear hok hb
  cases hps : gl.parse p with
  | none =>
    have HX : Hid (gl.matchOut p n = false ∧ gl.matchCode p n = 4) := Lib.hid (by unfold gl.matchOut gl.matchCode; rw [hps]; exact ⟨rfl, rfl⟩)
    clear hps
    simp only [Option.isSome_none]
    go_wp2
    go_ret2
    exact ⟨by rw [HX.out.1, HX.out.2]; rfl, HB.out⟩
  | some is =>
    obtain ⟨rfl, h40, ho⟩ := HOK.out is hps
    have HO := Lib.hid ho
    by_cases hlong : 200 < n.length
    · have hd : decide ((n.length : Int) > 200) = true := by simp; omega
      have hd' : decide (200 < (n.length : Int)) = true := by simp; omega
      have HX : Hid (gl.matchOut p n = false ∧ gl.matchCode p n = 1) := Lib.hid (by unfold gl.matchOut gl.matchCode; rw [hps]; exact ⟨if_pos hlong, if_pos hlong⟩)
      clear hps ho hlong
      simp only [Option.isSome_some]
      go_wp2
      go_ret2
      exact ⟨by rw [HX.out.1, HX.out.2]; rfl, HB.out⟩
    · have hd : decide ((n.length : Int) > 200) = false := by simp; omega
      have hd' : decide (200 < (n.length : Int)) = false := by simp; omega
      have HX : Hid (gl.matchOut p n = gl.matches_ is n ∧ gl.matchCode p n = 0) := Lib.hid (by unfold gl.matchOut gl.matchCode; rw [hps]; exact ⟨if_neg hlong, if_neg hlong⟩)
      have hn2 : n.length ≤ 1000000 := by omega
      clear hps ho hlong
      simp only [Option.isSome_some]
      go_wp2_with fail
      refine (glob_match is A c n w1 HO.out.cells h40 hn2).mono ?_
      rintro e w2 ⟨rfl, hb2⟩
      go_wp2
      go_ret2
      exact ⟨by rw [HX.out.1, HX.out.2]; rfl, bnext HB.out hb2⟩

set_option maxRecDepth 100000 in
set_option maxHeartbeats 2000000 in
theorem glob_Pick (p : List UInt8) (l : List ByteArray) (A0 : Option Addr) (c0 : Nat) (w : World) (hl : SlRep Rep.str w (· < w.heap.size) l A0 c0) (hp : p.length ≤ 140737488351232) (hn : l.length ≤ 140737488351232) (hs : ∀ s ∈ l, s.size ≤ 140737488351232) :
    Calls Try.prog 11 #[.string (strOf p), .slice A0 l.length c0] w (gl.PickRes (gl.pickOut p l) (gl.pickCode p l) w) := by
  have HPR := Lib.hid (glob_parts p w hp)
  have HL := Lib.hid hl
  have HSZ := Lib.hid hs
  clear hp hl hs
  go_enter Try.func11, Try.ntmps11
  go_wp2_with fail
  refine HPR.out.mono ?_
  rintro e w1 ⟨⟨A, m, c, rfl, hok⟩, hb⟩
  have HOK := Lib.hid hok
  have HB := Lib.hid hb
  clear hok hb
  cases hps : gl.parse p with
  | none =>
    have HX : Hid (gl.pickOut p l = [] ∧ gl.pickCode p l = 4) := Lib.hid (by unfold gl.pickOut gl.pickCode; rw [hps]; exact ⟨rfl, rfl⟩)
    clear hps
    simp only [Option.isSome_none]
    go_wp2
    go_ret2
    rw [HX.out.1, HX.out.2]
    exact gl.PickRes.no rfl HB.out
  | some is =>
    obtain ⟨rfl, h40, ho⟩ := HOK.out is hps
    have HO := Lib.hid ho
    simp only [Option.isSome_some]
    by_cases hlong : 64 < l.length
    · have hd : decide ((l.length : Int) > 64) = true := by simp; omega
      have hd' : decide (64 < (l.length : Int)) = true := by simp; omega
      have HX : Hid (gl.pickOut p l = [] ∧ gl.pickCode p l = 1) := Lib.hid (by unfold gl.pickOut gl.pickCode; rw [hps]; exact ⟨if_pos (.inl hlong), if_pos (.inl hlong)⟩)
      clear hps ho hlong
      go_wp2
      go_ret2
      rw [HX.out.1, HX.out.2]
      exact gl.PickRes.no rfl HB.out
    · have hd : decide ((l.length : Int) > 64) = false := by simp; omega
      have hd' : decide (64 < (l.length : Int)) = false := by simp; omega
      have hl64 : l.length ≤ 64 := by omega
      have HY : Hid (gl.longs l = true → gl.pickOut p l = [] ∧ gl.pickCode p l = 1) := Lib.hid (fun h => by unfold gl.pickOut gl.pickCode; rw [hps]; exact ⟨if_pos (.inr h), if_pos (.inr h)⟩)
      have HN : Hid (gl.longs l = false → gl.pickOut p l = gl.picks is l ∧ gl.pickCode p l = 0) := Lib.hid (fun h => by
        unfold gl.pickOut gl.pickCode
        rw [hps]
        exact ⟨if_neg (by rw [h]; simp; omega), if_neg (by rw [h]; simp; omega)⟩)
      clear hps ho hlong
      go_wp2
      go_loopw [8, 10, 23] (fun s8 _ s23 wr => ∃ (k : Nat) (o : List ByteArray) (Ao : Option Addr) (co : Nat), s8 = .slice Ao o.length co ∧ s23 = .int .i64 k ∧ k ≤ l.length ∧ o.length ≤ k ∧ Hid (gl.longs (l.take k) = false ∧ o = gl.picks is (l.take k)) ∧ Hid (Own wr w1.heap.size 9 1 Ao o.length co (o.map Value.string) ∧ Below w1.heap.size w1 wr)) (fun _ _ s23 _ => l.length - (intOf s23).toNat)
      case atStart => exact ⟨0, [], none, 0, rfl, rfl, by omega, by simp, Lib.hid ⟨rfl, rfl⟩, Lib.hid ⟨Own.nil _ _ _ _, Below.refl _ _⟩⟩
      case round =>
        obtain ⟨k, o, Ao, co, rfl, rfl, hk, hok, HT, HOW⟩ := hrel
        rename World => wr
        by_cases hlt : k < l.length
        · obtain ⟨b, o1, rfl, hb1, hc1⟩ := str_at (HL.out.next (bnext HB.out HOW.out.2)) hlt
          obtain ⟨s, hs⟩ : ∃ s, s = l.getD k .empty := ⟨_, rfl⟩
          have hsl : l.getD k .empty ∈ l := by rw [List.getD_eq_getElem?_getD, List.getElem?_eq_getElem hlt]; exact List.getElem_mem hlt
          have htk : l.take (k + 1) = l.take k ++ [l.getD k .empty] := by rw [List.take_add_one, List.getElem?_eq_getElem hlt, List.getD_eq_getElem?_getD, List.getElem?_eq_getElem hlt]; rfl
          have hsz : s.size ≤ 140737488351232 := by rw [hs]; exact HSZ.out _ hsl
          rw [← hs] at hc1 hsl htk
          obtain ⟨n, hn1⟩ : ∃ n, n = gl.bytes s := ⟨_, rfl⟩
          have hsn : s = strOf n := by rw [hn1, gl.of_bytes]
          rw [hsn, strOf_size] at hsz
          rw [hsn] at hc1
          have HSL := Lib.hid hsl
          have HTK := Lib.hid htk
          have HN1 := Lib.hid hn1
          have HSN := Lib.hid hsn
          clear hs hsl htk hn1 hsn
          by_cases hlong : 200 < n.length
          · have he : decide ((n.length : Int) > 200) = true := by simp; omega
            have he' : decide (200 < (n.length : Int)) = true := by simp; omega
            have HX := Lib.hid (HY.out (by unfold gl.longs; rw [List.any_eq_true]; exact ⟨s, HSL.out, by rw [← HN1.out]; exact decide_eq_true hlong⟩))
            clear hlong
            go_wp2
            go_ret2
            rw [HX.out.1, HX.out.2]
            exact gl.PickRes.no rfl (bnext HB.out HOW.out.2)
          · have he : decide ((n.length : Int) > 200) = false := by simp; omega
            have he' : decide (200 < (n.length : Int)) = false := by simp; omega
            have hn2 : n.length ≤ 1000000 := by omega
            have HLG : Hid (gl.longs (l.take (k + 1)) = false) := Lib.hid (by
              unfold gl.longs
              rw [HTK.out, List.any_append]
              have h1 := HT.out.1
              unfold gl.longs at h1
              rw [h1, List.any_cons, ← HN1.out, decide_eq_false hlong]
              rfl)
            clear hlong
            have HCL := Lib.hid (Cells.below HO.out.cells HOW.out.2 (fun j hj => (HO.out.lt j hj).2))
            cases hm : gl.matches_ is n with
            | true =>
              have HPK : Hid (gl.picks is (l.take (k + 1)) = o ++ [s]) := Lib.hid (by
                unfold gl.picks
                rw [HTK.out, List.filter_append, HT.out.2, List.filter_cons, ← HN1.out, hm]
                rfl)
              go_upto_region 13 with (first
                | (go_at_call 18; refine (glob_match is A c n wr HCL.out h40 hn2).mono ?_; rw [hm]; rintro e w5 ⟨rfl, hb5⟩; have HB5 := Lib.hid hb5; clear hb5)
                | fail)
              rw [← HSN.out]
              go_wp2_with (first
                | (at_builtin; refine wp_app _ rfl _ _ _ rfl elemStr w1.heap.size Ao o.length co _ rfl ((HOW.out.1.next HB5.out).alloc _) _ 1 1 [.string s] rfl rfl (Cells.newAt _ _ _ rfl) (by simp [Value.oneCell']) (by omega) (by unfold maxLen; omega) (by have h5 := HB5.out.size; have h6 := HOW.out.2.size; rw [World.size_alloc]; omega) ?_; intro A7 c7 w7 ho7 hg7; have HO7 := Lib.hid ho7; have HG7 := Lib.hid hg7; clear ho7 hg7)
                | fail)
              go_roundw
              case rel => exact ⟨k + 1, o ++ [s], A7, c7, by rw [List.length_append]; rfl, by go_num, by omega, by rw [List.length_append, List.length_singleton]; omega, Lib.hid ⟨HLG.out, HPK.out.symm⟩, Lib.hid ⟨by rw [List.map_append, List.length_append]; exact HO7.out, Grew.step (bnext HOW.out.2 (balloc HB5.out _)) HG7.out (fun j hj => (HOW.out.1.lt j hj).1)⟩⟩
              case measure => simp [intOf]; omega
            | false =>
              have HPK : Hid (gl.picks is (l.take (k + 1)) = o) := Lib.hid (by
                unfold gl.picks
                rw [HTK.out, List.filter_append, HT.out.2, List.filter_cons, ← HN1.out, hm]
                simp [gl.picks])
              go_wp2_with (first
                | (go_at_call 18; refine (glob_match is A c n wr HCL.out h40 hn2).mono ?_; rw [hm]; rintro e w5 ⟨rfl, hb5⟩; have HB5 := Lib.hid hb5; clear hb5)
                | fail)
              go_roundw
              case rel => exact ⟨k + 1, o, Ao, co, rfl, by go_num, by omega, by omega, Lib.hid ⟨HLG.out, HPK.out.symm⟩, Lib.hid ⟨HOW.out.1.next HB5.out, bnext HOW.out.2 HB5.out⟩⟩
              case measure => simp [intOf]; omega
        · obtain rfl : k = l.length := by omega
          have HX := Lib.hid (HN.out (by have := HT.out.1; rwa [List.take_length] at this))
          go_wp2
          go_ret2
          rw [HX.out.1, HX.out.2]
          have h1 := HT.out.2
          rw [List.take_length] at h1
          rw [← h1]
          exact ⟨Ao, co, rfl, HOW.out.1.base_le HB.out.size, bnext HB.out HOW.out.2⟩
end Go.Proofs.Ytldoihbblgnpjaa
