/- Package glob: the reference's GlobPick. No condition. -/
import Derived.Test.YtldoihbblgnpjaaGlob8
import Derived.Test.YtldoihbblgnpjaaGlob12
namespace Go.Proofs.Ytldoihbblgnpjaa
open Go.RowKit

set_option maxRecDepth 100000 in
set_option maxHeartbeats 4000000 in
theorem ref_GlobPick (p : List UInt8) (l : List ByteArray) (A0 : Option Addr) (c0 : Nat) (w : World) (hl : SlRep Rep.str w (· < w.heap.size) l A0 c0) (hp : p.length ≤ 140737488351232) (hn : l.length ≤ 140737488351232) (hs : ∀ s ∈ l, s.size ≤ 140737488351232) :
    Calls Try.prog 12 #[.string (strOf p), .slice A0 l.length c0] w (gl.PickRes (gl.pickOut p l) (gl.pickCode p l) w) := by
  have HPR := Lib.hid (ref_globItems p w hp)
  have HL := Lib.hid hl
  have HSZ := Lib.hid hs
  clear hp hl hs
  go_enter Try.func12, Try.ntmps12
  go_wp2_with fail
  refine HPR.out.mono ?_
  rintro e w1 ⟨⟨A, m, c, rfl, hok⟩, hb⟩
  have HOK := Lib.hid hok
  have HB := Lib.hid hb
  clear hok hb
  cases hps : gl.parse p with
  | none =>
    have HX : Hid (gl.pickOut p l = [] ∧ gl.pickCode p l = 4) := Lib.hid (by unfold gl.pickOut gl.pickCode; rw [hps]; exact ⟨rfl, rfl⟩)
    clear hps
    simp only [Option.isSome_none]
    go_wp2
    go_ret2
    rw [HX.out.1, HX.out.2]
    exact gl.PickRes.no rfl HB.out
  | some is =>
    obtain ⟨rfl, h40, ho⟩ := HOK.out is hps
    have HO := Lib.hid ho
    simp only [Option.isSome_some]
    by_cases hlong : 64 < l.length
    · have hd : decide ((l.length : Int) > 64) = true := by simp; omega
      have hd' : decide (64 < (l.length : Int)) = true := by simp; omega
      have HX : Hid (gl.pickOut p l = [] ∧ gl.pickCode p l = 1) := Lib.hid (by unfold gl.pickOut gl.pickCode; rw [hps]; exact ⟨if_pos (.inl hlong), if_pos (.inl hlong)⟩)
      clear hps ho hlong
      go_wp2
      go_ret2
      rw [HX.out.1, HX.out.2]
      exact gl.PickRes.no rfl HB.out
    · have hd : decide ((l.length : Int) > 64) = false := by simp; omega
      have hd' : decide (64 < (l.length : Int)) = false := by simp; omega
      have hl64 : l.length ≤ 64 := by omega
      have HY : Hid (gl.longs l = true → gl.pickOut p l = [] ∧ gl.pickCode p l = 1) := Lib.hid (fun h => by unfold gl.pickOut gl.pickCode; rw [hps]; exact ⟨if_pos (.inr h), if_pos (.inr h)⟩)
      have HN : Hid (gl.longs l = false → gl.pickOut p l = gl.picks is l ∧ gl.pickCode p l = 0) := Lib.hid (fun h => by
        unfold gl.pickOut gl.pickCode
        rw [hps]
        exact ⟨if_neg (by rw [h]; simp; omega), if_neg (by rw [h]; simp; omega)⟩)
      have HLT : Hid (∀ k, k < l.length → ∃ n : List UInt8, l.getD k .empty = strOf n ∧ n = gl.bytes (l.getD k .empty) ∧ n.length ≤ 140737488351232 ∧ l.take (k + 1) = l.take k ++ [l.getD k .empty] ∧ l.getD k .empty ∈ l) := Lib.hid (fun k hlt => by
        have hsl : l.getD k .empty ∈ l := by rw [List.getD_eq_getElem?_getD, List.getElem?_eq_getElem hlt]; exact List.getElem_mem hlt
        have htk : l.take (k + 1) = l.take k ++ [l.getD k .empty] := by rw [List.take_add_one, List.getElem?_eq_getElem hlt, List.getD_eq_getElem?_getD, List.getElem?_eq_getElem hlt]; rfl
        have hsz := HSZ.out _ hsl
        refine ⟨gl.bytes (l.getD k .empty), (gl.of_bytes _).symm, rfl, ?_, htk, hsl⟩
        rw [← gl.of_bytes (l.getD k .empty), strOf_size] at hsz
        exact hsz)
      clear hps ho hlong
      go_wp2
      go_loopw [10, 25] (fun _ s12 wr => ∃ (k m : Nat), s12 = .int .i64 k ∧ k ≤ l.length ∧ wr = w1.drewN m ∧ Hid (gl.longs (l.take k) = false)) (fun _ s12 _ => l.length - (intOf s12).toNat)
      case atStart => exact ⟨0, 0, rfl, by omega, rfl, Lib.hid rfl⟩
      case round =>
        obtain ⟨k, m, rfl, hk, rfl, HT⟩ := hrel
        by_cases hlt : k < l.length
        · obtain ⟨b, o1, rfl, hb1, hc1⟩ := str_at (HL.out.next (bnext HB.out (Below.refl _ _))) hlt
          obtain ⟨n, hsn, hn1, hsz, htk, hmem⟩ := HLT.out k hlt
          rw [hsn] at hc1
          by_cases hlong : 200 < n.length
          · have he : decide ((n.length : Int) > 200) = true := by simp; omega
            have he' : decide (200 < (n.length : Int)) = true := by simp; omega
            have HX := Lib.hid (HY.out (by unfold gl.longs; rw [List.any_eq_true]; exact ⟨_, hmem, by rw [← hn1]; exact decide_eq_true hlong⟩))
            clear hlong hsn hn1 htk hmem
            go_wp2
            go_ret2
            rw [HX.out.1, HX.out.2]
            exact gl.PickRes.no rfl (bnext HB.out (by first | exact Below.refl _ _ | exact (by repeat (first | (with_reducible exact Below.refl _ _) | (with_reducible assumption) | (with_reducible refine bset ?_ ?_ _) | (with_reducible refine balloc ?_ _) | (with_reducible refine Below.drew ?_) | (with_reducible refine bdrewN ?_ _) | (with_reducible refine bnext ?_ (by with_reducible assumption)) | exact Nat.le_refl _ | (simp; done) | omega | (simp; omega)))))
          · have he : decide ((n.length : Int) > 200) = false := by simp; omega
            have he' : decide (200 < (n.length : Int)) = false := by simp; omega
            have HLG : Hid (gl.longs (l.take (k + 1)) = false) := Lib.hid (by
              unfold gl.longs
              rw [htk, List.any_append]
              have h1 := HT.out
              unfold gl.longs at h1
              rw [h1, List.any_cons, ← hn1, decide_eq_false hlong]
              rfl)
            clear hlong hsn hn1 htk hmem
            go_wp2
            go_roundw
            case rel => exact ⟨k + 1, _, by go_num, by omega, rfl, HLG⟩
            case measure => simp [intOf]; omega
        · obtain rfl : k = l.length := by omega
          have hlg : gl.longs l = false := by have := HT.out; rwa [List.take_length] at this
          have HX := Lib.hid (HN.out hlg)
          have HLG := Lib.hid hlg
          clear HT HY HN hlg hlt
          have HB0 : Hid (Below w.heap.size w (w1.drewN m)) := Lib.hid (bdrewN HB.out m)
          have HO0 := Lib.hid (HO.out.next (bdrewN (Below.refl _ w1) m))
          clear HB HO
          generalize w1.drewN m = wr0 at *
          have HB := HB0
          have HO := HO0
          clear HB0 HO0
          go_wp2
          go_loopw [8, 12, 35] (fun s8 _ s21 wr => ∃ (k : Nat) (o : List ByteArray) (Ao : Option Addr) (co : Nat), s8 = .slice Ao o.length co ∧ s21 = .int .i64 k ∧ k ≤ l.length ∧ o.length ≤ k ∧ Hid (o = gl.picks is (l.take k)) ∧ Hid (Own wr wr0.heap.size 9 1 Ao o.length co (o.map Value.string) ∧ Below wr0.heap.size wr0 wr)) (fun _ _ s21 _ => l.length - (intOf s21).toNat)
          case atStart => exact ⟨0, [], none, 0, rfl, rfl, by omega, by simp, Lib.hid rfl, Lib.hid ⟨Own.nil _ _ _ _, by first | exact Below.refl _ _ | exact (by repeat (first | (with_reducible exact Below.refl _ _) | (with_reducible assumption) | (with_reducible refine bset ?_ ?_ _) | (with_reducible refine balloc ?_ _) | (with_reducible refine Below.drew ?_) | (with_reducible refine bdrewN ?_ _) | (with_reducible refine bnext ?_ (by with_reducible assumption)) | exact Nat.le_refl _ | (simp; done) | omega | (simp; omega)))⟩⟩
          case round =>
            obtain ⟨k, o, Ao, co, rfl, rfl, hk, hok, HT, HOW⟩ := hrel
            rename World => wr
            by_cases hlt : k < l.length
            · obtain ⟨b, o1, rfl, hb1, hc1⟩ := str_at (HL.out.next (bnext HB.out HOW.out.2)) hlt
              obtain ⟨n, hsn, hn1, hsz, htk, hmem⟩ := HLT.out k hlt
              obtain ⟨s, hs⟩ : ∃ s, s = l.getD k .empty := ⟨_, rfl⟩
              rw [← hs] at hc1 hsn hn1 htk hmem
              rw [hsn] at hc1
              have hn2 : n.length ≤ 1000000 := by
                have h1 := HLG.out
                unfold gl.longs at h1
                rw [List.any_eq_false] at h1
                have h2 := h1 s hmem
                rw [← hn1] at h2
                simp only [decide_eq_true_eq] at h2
                omega
              have HTK := Lib.hid htk
              have HN1 := Lib.hid hn1
              have HSN := Lib.hid hsn
              clear hs hsn hn1 htk hmem
              have HOX := Lib.hid (HO.out.next HOW.out.2)
              cases hm : gl.matches_ is n with
              | true =>
                have HPK : Hid (gl.picks is (l.take (k + 1)) = o ++ [s]) := Lib.hid (by
                  unfold gl.picks
                  rw [HTK.out, List.filter_append, HT.out, List.filter_cons, ← HN1.out, hm]
                  rfl)
                go_upto_region 17 with (first
                  | (go_at_call 19; refine (ref_globOf is A c n wr HOX.out h40 hn2).mono ?_; rw [hm]; rintro e w5 ⟨rfl, hb5⟩; have HB5 := Lib.hid hb5; clear hb5)
                  | fail)
                rw [← HSN.out]
                go_wp2_with (first
                  | (at_builtin; refine wp_app _ rfl _ _ _ rfl elemStr wr0.heap.size Ao o.length co _ rfl ((HOW.out.1.next HB5.out).alloc _) _ 1 1 [.string s] rfl rfl (Cells.newAt _ _ _ rfl) (by simp [Value.oneCell']) (by omega) (by unfold maxLen; omega) (by have h5 := HB5.out.size; have h6 := HOW.out.2.size; rw [World.size_alloc]; omega) ?_; intro A7 c7 w7 ho7 hg7; have HO7 := Lib.hid ho7; have HG7 := Lib.hid hg7; clear ho7 hg7)
                  | fail)
                go_roundw
                case rel => exact ⟨k + 1, o ++ [s], A7, c7, by rw [List.length_append]; rfl, by go_num, by omega, by rw [List.length_append, List.length_singleton]; omega, Lib.hid HPK.out.symm, Lib.hid ⟨by rw [List.map_append, List.length_append]; exact HO7.out, Grew.step (bnext HOW.out.2 (balloc HB5.out _)) HG7.out (fun j hj => (HOW.out.1.lt j hj).1)⟩⟩
                case measure => simp [intOf]; omega
              | false =>
                have HPK : Hid (gl.picks is (l.take (k + 1)) = o) := Lib.hid (by
                  unfold gl.picks
                  rw [HTK.out, List.filter_append, HT.out, List.filter_cons, ← HN1.out, hm]
                  simp [gl.picks])
                go_wp2_with (first
                  | (go_at_call 19; refine (ref_globOf is A c n wr HOX.out h40 hn2).mono ?_; rw [hm]; rintro e w5 ⟨rfl, hb5⟩; have HB5 := Lib.hid hb5; clear hb5)
                  | fail)
                go_roundw
                case rel => exact ⟨k + 1, o, Ao, co, rfl, by go_num, by omega, by omega, Lib.hid HPK.out.symm, Lib.hid ⟨HOW.out.1.next HB5.out, bnext HOW.out.2 HB5.out⟩⟩
                case measure => simp [intOf]; omega
            · obtain rfl : k = l.length := by omega
              go_wp2
              go_ret2
              rw [HX.out.1, HX.out.2]
              have h1 := HT.out
              rw [List.take_length] at h1
              rw [← h1]
              exact ⟨Ao, co, rfl, HOW.out.1.base_le HB.out.size, bnext HB.out HOW.out.2⟩
end Go.Proofs.Ytldoihbblgnpjaa
