/- Package lz: Parse. No condition. -/
import Derived.Test.YtkbmpppendelcaaLz5
namespace Go.Proofs.Ytkbmpppendelcaa
open Go.RowKit

theorem elemTok : ElemT Try.prog 25 31 3 24 := ElemT.of Try.underlying25 (z := .agg #[.int .u8 0, .int .i64 0, .int .i64 0]) (by kernel_rfl) rfl (by decide)
theorem lzq.tok_low (l : List UInt8) (a : Nat) : (lzq.best l a (min 255 a)).1 = 0 ∧ lzq.low (lzq.best l a (min 255 a)) = (0, 0) ∧ lzq.tok l a = ⟨l.getD a 0, 0, 0⟩ ∧ lzq.wide l a = 1 ∨
    ∃ d n : Nat, lzq.low (lzq.best l a (min 255 a)) = (d, n) ∧ 3 ≤ n ∧ lzq.tok l a = ⟨0, d, n⟩ ∧ lzq.wide l a = n := by
  rcases lzq.best_two l a (min 255 a) with ⟨h1, h2⟩ | ⟨h1, h2, h3, h4, h5⟩
  · exact .inl ⟨h1, by simp [lzq.low, h1], by simp [lzq.tok, h1], by simp [lzq.wide, h1]⟩
  · exact .inr ⟨_, _, if_neg (by omega), h3, by simp only [lzq.tok]; rw [if_neg (by omega)], by simp only [lzq.wide]; rw [if_neg (by omega)]⟩

theorem grew_keep {w0 W2 w3 : World} {A A' : Option Addr} (hg : Grew W2 w3 A A') (hb : Below w0.heap.size w0 W2) : ∀ j, j < w0.heap.size → blkOf A ≠ some j → w3.heap[j]? = w0.heap[j]? := fun j hj hne =>
  (hg.grown.block j (Nat.lt_of_lt_of_le hj hb.size) (fun e => hne e.symm)).trans (hb.block j hj)
theorem grew_new {w0 W2 w3 : World} {A A' : Option Addr} (hg : Grew W2 w3 A A') (hb : Below w0.heap.size w0 W2) : ∀ j, blkOf A' = some j → blkOf A = some j ∨ w0.heap.size ≤ j := fun j hj => by
  rcases hg.blk with h | ⟨g, h1, h2⟩
  · exact .inl (h ▸ hj)
  · rw [h2] at hj
    cases hj
    exact .inr (Nat.le_trans hb.size h1)

/-- tokens, and a fault's number -/
def TokRes (o : List Token) (code : Int) (w : World) (e : Ending) (w' : World) : Prop :=
  ∃ A c, e = .returned (.tuple #[.slice A o.length c, .int .i64 code]) ∧ Own w' w.heap.size 31 3 A o.length c (o.flatMap Token.cells) ∧ Below w.heap.size w w'

set_option maxRecDepth 100000 in
set_option maxHeartbeats 4000000 in
theorem lz_Parse_ok (l : List UInt8) (A : Option Addr) (c : Nat) (w : World) (hl : SlRep Rep.u8 w (· < w.heap.size) l A c) (hn : l.length ≤ 4096) :
    Calls Try.prog 7 #[.slice A l.length c] w (TokRes (lzq.toks l 0) 0 w) := by
  have hmm := @run_makeMap Try.prog
  have HL := Lib.hid hl
  clear hl
  go_enter Try.func7, Try.ntmps7
  go_wp2
  go_loopw [5, 6] (fun out at_ wr => ∃ (k : Nat) (o : List Token) (A' : Option Addr) (c' : Nat), at_ = .int .i64 k ∧ out = .slice A' o.length c' ∧ k ≤ l.length ∧ o.length ≤ k ∧ Hid (o ++ lzq.toks l k = lzq.toks l 0) ∧ Hid (Own wr w.heap.size 31 3 A' o.length c' (o.flatMap Token.cells)) ∧ Hid (Groups Try.prog 68 3 .i64 wr w.heap.size w.heap.size k (fun j => blkOf A' = some j) (lzq.posV l k)) ∧ Below w.heap.size w wr) (fun _ at_ _ => l.length - (intOf at_).toNat)
  case atStart => exact ⟨0, [], none, 0, rfl, rfl, by omega, by simp, Lib.hid rfl, Lib.hid (Own.nil _ _ _ _), Lib.hid (Groups.made _ _ _ _ _ _ _ (by simp [blkOf])), (by repeat (first | (with_reducible exact Below.refl _ _) | (with_reducible assumption) | (with_reducible refine bset ?_ ?_ _) | (with_reducible refine balloc ?_ _) | (with_reducible refine Below.drew ?_) | (with_reducible refine bdrewN ?_ _) | (with_reducible refine bnext ?_ (by with_reducible assumption)) | exact Nat.le_refl _ | (simp; done) | omega | (simp; omega)))⟩
  case round =>
    obtain ⟨k, o, A', c', rfl, rfl, hk, hok, HT, HO, HG, hB⟩ := hrel
    rename World => wr
    have hszr := hB.size
    have hbm : w.heap.size < wr.heap.size := HG.out.lt
    by_cases hlt : k < l.length
    · have hlti : (k : Int) < (l.length : Int) := by omega
      have HLr : Hid (SlRep Rep.u8 wr (· < w.heap.size) l A c) := Lib.hid (HL.out.keep fun q hq => ⟨hq, hB.block q hq⟩)
      have HB := Lib.hid (lz_best l A c k w.heap.size k (fun j => blkOf A' = some j) wr HLr.out hlt hn HG.out)
      have HTM := Lib.hid (lzq.toks_more hlt)
      have HW := Lib.hid (lzq.wide_pos l k hlt)
      obtain ⟨bb, oo, rfl, hbb, hcb⟩ := u8_at HLr.out hlt
      have hbw : bb < wr.heap.size := Nat.lt_trans hbb hbm
      have HX := Lib.hid (lzq.tok_low l k)
      generalize lzq.low (lzq.best l k (min 255 k)) = s at *
      generalize lzq.tok l k = T at *
      have hbA : ∀ q, blkOf A' = some q → w.heap.size ≤ q ∧ q < wr.heap.size := HO.out.lt
      rcases HX.out with ⟨_, hs, hT, hwd⟩ | ⟨d, n, hs, hn3, hT, hwd⟩
      · subst hs; subst hT
        dsimp only at HB
        rw [show ((0 : Nat) : Int) = 0 from rfl] at HB
        generalize l.getD k 0 = x at *
        have hwl := HW.out
        rw [hwd] at HTM hwl
        have HTT : Hid ((o ++ [_]) ++ lzq.toks l (k + 1) = lzq.toks l 0) := Lib.hid (by rw [List.append_assoc, List.singleton_append, ← HTM.out]; exact HT.out)
        clear HX HW hwd HT HTM
        go_wp2_with (first
          | (go_at_call 17; go_loud (refine HB.out.mono ?_; rintro e w1 ⟨rfl, hb1⟩; have hs1 := hb1.size; have hbw1 : bb < w1.heap.size := Nat.lt_of_lt_of_le hbw hs1; have hcx : w1.cell? ⟨bb, oo + k, none⟩ = some (.int .u8 x.toNat) := (hb1.cell (p := ⟨bb, oo + k, none⟩) hbw).trans hcb))
          | (at_builtin; refine wp_app _ rfl _ _ _ rfl elemTok w.heap.size A' _ c' _ rfl (HO.out.next (by repeat (first | (with_reducible exact Below.refl _ _) | (with_reducible assumption) | (with_reducible refine bset ?_ ?_ _) | (with_reducible refine balloc ?_ _) | (with_reducible refine Below.drew ?_) | (with_reducible refine bdrewN ?_ _) | (with_reducible refine bnext ?_ (by with_reducible assumption)) | exact Nat.le_refl _ | (simp; done) | omega | (simp; omega)))) _ 1 1 [.int .u8 (x.toNat : Int), .int .i64 0, .int .i64 0] rfl rfl (Cells.newAt _ _ _ (by simp)) (by simp [Value.oneCell']) (by omega) (by unfold maxLen; omega) (by simp; omega) ?_; intro A3 c3 w3 ho3 hg3; have HO3 := Lib.hid ho3; clear ho3; have hct := hg3.cell (b := w1.heap.size) 2 (by simp only [World.size_alloc, World.size_setCell]; omega) (fun q hq => by have := (hbA q hq).2; omega); simp [go_sem] at hct; have hs3 := hg3.grown.size; simp only [World.size_alloc] at hs3; have hk3 := grew_keep hg3 (w0 := wr) (by repeat (first | (with_reducible exact Below.refl _ _) | (with_reducible assumption) | (with_reducible refine bset ?_ ?_ _) | (with_reducible refine balloc ?_ _) | (with_reducible refine Below.drew ?_) | (with_reducible refine bdrewN ?_ _) | (with_reducible refine bnext ?_ (by with_reducible assumption)) | exact Nat.le_refl _ | (simp; done) | omega | (simp; omega))); have hn3 := grew_new hg3 (w0 := wr) (by repeat (first | (with_reducible exact Below.refl _ _) | (with_reducible assumption) | (with_reducible refine bset ?_ ?_ _) | (with_reducible refine balloc ?_ _) | (with_reducible refine Below.drew ?_) | (with_reducible refine bdrewN ?_ _) | (with_reducible refine bnext ?_ (by with_reducible assumption)) | exact Nat.le_refl _ | (simp; done) | omega | (simp; omega))); have hB3 : Below w.heap.size w w3 := Grew.step (by repeat (first | (with_reducible exact Below.refl _ _) | (with_reducible assumption) | (with_reducible refine bset ?_ ?_ _) | (with_reducible refine balloc ?_ _) | (with_reducible refine Below.drew ?_) | (with_reducible refine bdrewN ?_ _) | (with_reducible refine bnext ?_ (by with_reducible assumption)) | exact Nat.le_refl _ | (simp; done) | omega | (simp; omega))) hg3 (fun q hq => (hbA q hq).1))
          | fail)
        have HG3 : Hid (Groups Try.prog 68 3 .i64 w3 w.heap.size w.heap.size (k + 0) (fun j => blkOf A3 = some j) (lzq.posV l (k + 0))) := Lib.hid (HG.out.keep hk3 hn3)
        have HV : Hid (o.flatMap Token.cells ++ [.int .u8 (x.toNat : Int), .int .i64 0, .int .i64 0] = (o ++ [(⟨x, 0, 0⟩ : Token)]).flatMap Token.cells) := Lib.hid (by rw [List.flatMap_append]; rfl)
        have HNL : Hid ((o ++ [(⟨x, 0, 0⟩ : Token)]).length = o.length + 1) := Lib.hid (by simp)
        rw [HV.out] at HO3
        clear HB HO HG HV hcx hct hb1 hg3 hk3 hn3 hbA hcb
        go_loopw [6, 35] (fun at_ i wq => ∃ j : Nat, at_ = .int .i64 ((k + j : Nat) : Int) ∧ i = .int .i64 j ∧ j ≤ 1 ∧ Hid (Groups Try.prog 68 3 .i64 wq w.heap.size w.heap.size (k + j) (fun j => blkOf A3 = some j) (lzq.posV l (k + j))) ∧ Hid (Own wq w.heap.size 31 3 A3 (o.length + 1) c3 ((o ++ [(⟨x, 0, 0⟩ : Token)]).flatMap Token.cells)) ∧ Below w.heap.size w wq) (fun _ i _ => 1 - (intOf i).toNat)
        case atStart => exact ⟨0, rfl, rfl, by omega, HG3, HO3, hB3⟩
        case round =>
          obtain ⟨j, rfl, rfl, hj, HGj, HOj, hBj⟩ := hrel
          rename World => wq
          by_cases hjl : j < 1
          · have hjli : (j : Int) < 1 := by omega
            have HNT := Lib.hid (lz_note l (some ⟨bb, oo, none⟩) c (k + j) w.heap.size (fun j => blkOf A3 = some j) wq (HL.out.keep fun q hq => ⟨hq, hBj.block q hq⟩) (by omega) hn HGj.out (fun q hq => (HOj.out.lt q hq).2))
            have hov : ((k + j : Nat) : Int) + 1 ≤ 9223372036854775807 := by omega
            go_wp2_with (first
              | (go_at_call 18; refine HNT.out.mono ?_; rintro e wn ⟨rfl, hgn, hbn, hkn⟩; have HGn := Lib.hid hgn; have HOn : Hid (Own wn w.heap.size 31 3 A3 (o.length + 1) c3 ((o ++ [(⟨x, 0, 0⟩ : Token)]).flatMap Token.cells)) := Lib.hid (own_same HOj.out (fun g hg => hkn g hg)); clear hgn hkn HNT)
              | fail)
            go_roundw
            case rel => exact ⟨j + 1, by go_num, by go_num, by omega, HGn, HOn, hBj.trans hbn⟩
            case measure => simp [intOf]; omega
          · obtain rfl : j = 1 := by omega
            go_wp2
            go_roundw
            case rel => exact ⟨k + 1, o ++ [⟨x, 0, 0⟩], A3, c3, rfl, by rw [HNL.out], by omega, by rw [HNL.out]; omega, HTT, by rw [HNL.out]; exact HOj, HGj, hBj⟩
            case measure => simp [intOf]; omega
      · subst hs; subst hT
        have hn0 : ((n : Int) == 0) = false := by rw [beq_eq_false_iff_ne]; omega
        dsimp only at HB
        generalize l.getD k 0 = x at *
        have hwl := HW.out
        rw [hwd] at HTM hwl
        have HTT : Hid ((o ++ [_]) ++ lzq.toks l (k + n) = lzq.toks l 0) := Lib.hid (by rw [List.append_assoc, List.singleton_append, ← HTM.out]; exact HT.out)
        clear HX HW hwd HT HTM
        go_wp2_with (first
          | (go_at_call 17; go_loud (refine HB.out.mono ?_; rintro e w1 ⟨rfl, hb1⟩; have hs1 := hb1.size; have hbw1 : bb < w1.heap.size := Nat.lt_of_lt_of_le hbw hs1; have hcx : w1.cell? ⟨bb, oo + k, none⟩ = some (.int .u8 x.toNat) := (hb1.cell (p := ⟨bb, oo + k, none⟩) hbw).trans hcb))
          | (at_builtin; refine wp_app _ rfl _ _ _ rfl elemTok w.heap.size A' _ c' _ rfl (HO.out.next (by repeat (first | (with_reducible exact Below.refl _ _) | (with_reducible assumption) | (with_reducible refine bset ?_ ?_ _) | (with_reducible refine balloc ?_ _) | (with_reducible refine Below.drew ?_) | (with_reducible refine bdrewN ?_ _) | (with_reducible refine bnext ?_ (by with_reducible assumption)) | exact Nat.le_refl _ | (simp; done) | omega | (simp; omega)))) _ 1 1 [.int .u8 0, .int .i64 (d : Int), .int .i64 (n : Int)] rfl rfl (Cells.newAt _ _ _ (by simp)) (by simp [Value.oneCell']) (by omega) (by unfold maxLen; omega) (by simp; omega) ?_; intro A3 c3 w3 ho3 hg3; have HO3 := Lib.hid ho3; clear ho3; have hct := hg3.cell (b := w1.heap.size) 2 (by simp only [World.size_alloc, World.size_setCell]; omega) (fun q hq => by have := (hbA q hq).2; omega); simp [go_sem] at hct; have hs3 := hg3.grown.size; simp only [World.size_alloc] at hs3; have hk3 := grew_keep hg3 (w0 := wr) (by repeat (first | (with_reducible exact Below.refl _ _) | (with_reducible assumption) | (with_reducible refine bset ?_ ?_ _) | (with_reducible refine balloc ?_ _) | (with_reducible refine Below.drew ?_) | (with_reducible refine bdrewN ?_ _) | (with_reducible refine bnext ?_ (by with_reducible assumption)) | exact Nat.le_refl _ | (simp; done) | omega | (simp; omega))); have hn3 := grew_new hg3 (w0 := wr) (by repeat (first | (with_reducible exact Below.refl _ _) | (with_reducible assumption) | (with_reducible refine bset ?_ ?_ _) | (with_reducible refine balloc ?_ _) | (with_reducible refine Below.drew ?_) | (with_reducible refine bdrewN ?_ _) | (with_reducible refine bnext ?_ (by with_reducible assumption)) | exact Nat.le_refl _ | (simp; done) | omega | (simp; omega))); have hB3 : Below w.heap.size w w3 := Grew.step (by repeat (first | (with_reducible exact Below.refl _ _) | (with_reducible assumption) | (with_reducible refine bset ?_ ?_ _) | (with_reducible refine balloc ?_ _) | (with_reducible refine Below.drew ?_) | (with_reducible refine bdrewN ?_ _) | (with_reducible refine bnext ?_ (by with_reducible assumption)) | exact Nat.le_refl _ | (simp; done) | omega | (simp; omega))) hg3 (fun q hq => (hbA q hq).1))
          | fail)
        have HG3 : Hid (Groups Try.prog 68 3 .i64 w3 w.heap.size w.heap.size (k + 0) (fun j => blkOf A3 = some j) (lzq.posV l (k + 0))) := Lib.hid (HG.out.keep hk3 hn3)
        have HV : Hid (o.flatMap Token.cells ++ [.int .u8 0, .int .i64 (d : Int), .int .i64 (n : Int)] = (o ++ [(⟨0, d, n⟩ : Token)]).flatMap Token.cells) := Lib.hid (by rw [List.flatMap_append]; rfl)
        have HNL : Hid ((o ++ [(⟨0, d, n⟩ : Token)]).length = o.length + 1) := Lib.hid (by simp)
        rw [HV.out] at HO3
        clear HB HO HG HV hcx hct hb1 hg3 hk3 hn3 hbA hcb
        go_loopw [6, 35] (fun at_ i wq => ∃ j : Nat, at_ = .int .i64 ((k + j : Nat) : Int) ∧ i = .int .i64 j ∧ j ≤ n ∧ Hid (Groups Try.prog 68 3 .i64 wq w.heap.size w.heap.size (k + j) (fun j => blkOf A3 = some j) (lzq.posV l (k + j))) ∧ Hid (Own wq w.heap.size 31 3 A3 (o.length + 1) c3 ((o ++ [(⟨0, d, n⟩ : Token)]).flatMap Token.cells)) ∧ Below w.heap.size w wq) (fun _ i _ => n - (intOf i).toNat)
        case atStart => exact ⟨0, rfl, rfl, by omega, HG3, HO3, hB3⟩
        case round =>
          obtain ⟨j, rfl, rfl, hj, HGj, HOj, hBj⟩ := hrel
          rename World => wq
          by_cases hjl : j < n
          · have hjli : (j : Int) < (n : Int) := by omega
            have HNT := Lib.hid (lz_note l (some ⟨bb, oo, none⟩) c (k + j) w.heap.size (fun j => blkOf A3 = some j) wq (HL.out.keep fun q hq => ⟨hq, hBj.block q hq⟩) (by omega) hn HGj.out (fun q hq => (HOj.out.lt q hq).2))
            have hov : ((k + j : Nat) : Int) + 1 ≤ 9223372036854775807 := by omega
            go_wp2_with (first
              | (go_at_call 18; refine HNT.out.mono ?_; rintro e wn ⟨rfl, hgn, hbn, hkn⟩; have HGn := Lib.hid hgn; have HOn : Hid (Own wn w.heap.size 31 3 A3 (o.length + 1) c3 ((o ++ [(⟨0, d, n⟩ : Token)]).flatMap Token.cells)) := Lib.hid (own_same HOj.out (fun g hg => hkn g hg)); clear hgn hkn HNT)
              | fail)
            go_roundw
            case rel => exact ⟨j + 1, by go_num, by go_num, by omega, HGn, HOn, hBj.trans hbn⟩
            case measure => simp [intOf]; omega
          · obtain rfl : j = n := by omega
            go_wp2
            go_roundw
            case rel => exact ⟨k + j, o ++ [⟨0, d, j⟩], A3, c3, rfl, by rw [HNL.out], by omega, by rw [HNL.out]; omega, HTT, by rw [HNL.out]; exact HOj, HGj, hBj⟩
            case measure => simp [intOf]; omega
    · obtain rfl : k = l.length := by omega
      have HE : Hid (lzq.toks l 0 = o) := Lib.hid (by rw [← HT.out, lzq.toks_end (Nat.le_refl _), List.append_nil])
      go_wp2
      go_ret2
      exact ⟨A', c', by rw [HE.out]; rfl, by rw [HE.out]; exact HO.out, hB⟩
end Go.Proofs.Ytkbmpppendelcaa
