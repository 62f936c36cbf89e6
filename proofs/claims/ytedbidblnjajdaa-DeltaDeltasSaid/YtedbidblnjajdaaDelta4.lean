/- Package delta: Delta. No condition. -/
import Derived.Test.YtedbidblnjajdaaDelta3
import Derived.Deep.RegionLaw
import Derived.IntWalk
namespace Go.Proofs.Ytedbidblnjajdaa
open Go.RowKit

theorem elemPiece : ElemT Try.prog 29 87 4 48 := ElemT.of Try.underlying29 (z := .agg #[.bool false, .int .i64 0, .int .i64 0, .slice none 0 0]) (by kernel_rfl) rfl (by decide)
theorem slrep_nil {w : World} {S : Nat → Prop} : SlRep Rep.u8 w S [] none 0 := ⟨Nat.le_refl _, Nat.zero_le _, .inl rfl⟩
theorem piece_cop {w : World} {S : Nat → Prop} (s : Nat × Nat) : Piece.rep.rep w S (deltaq.cop s) [.bool true, .int .i64 (s.1 : Nat), .int .i64 (s.2 : Nat), .slice none 0 0] := Piece.rep_iff.2 ⟨none, 0, rfl, slrep_nil⟩
theorem piece_lit {w : World} {S : Nat → Prop} {d : List UInt8} {B : Option Addr} {c : Nat} (h : SlRep Rep.u8 w S d B c) : Piece.rep.rep w S (deltaq.lit d) [.bool false, .int .i64 0, .int .i64 0, .slice B d.length c] := Piece.rep_iff.2 ⟨B, c, rfl, h⟩

/-- an open piece of new bytes, and the pieces ahead of it -/
def DOpen (w : World) (base : Nat) (A : Option Addr) (c : Nat) (L : List Piece) (d : List UInt8) : Prop :=
  ∃ (xs : List Value) (Bd : Option Addr) (cB : Nat), Own w base 87 4 A (L.length + 1) c (xs ++ [.bool false, .int .i64 0, .int .i64 0, .slice Bd d.length cB]) ∧ RowsOf Piece.rep w (Apart2 w base A Bd) L xs ∧ Own w base 5 1 Bd d.length cB (d.map u8v) ∧ Two Bd A
def DClosed (w : World) (base : Nat) (A : Option Addr) (c : Nat) (L : List Piece) : Prop := ∃ xs, Own w base 87 4 A L.length c xs ∧ RowsOf Piece.rep w (Apart w base A) L xs
theorem Apart.next' {w w' : World} {base : Nat} {A : Option Addr} (hb : Below w.heap.size w w') : ∀ k, Apart w base A k → Apart w' base A k ∧ w'.heap[k]? = w.heap[k]? := Apart.next hb
theorem DClosed.next {w w' : World} {base : Nat} {A : Option Addr} {c : Nat} {L : List Piece} (h : DClosed w base A c L) (hb : Below w.heap.size w w') : DClosed w' base A c L :=
  let ⟨xs, h1, h2⟩ := h; ⟨xs, h1.next hb, h2.keep (Apart.next hb)⟩
theorem DOpen.next {w w' : World} {base : Nat} {A : Option Addr} {c : Nat} {L : List Piece} {d : List UInt8} (h : DOpen w base A c L d) (hb : Below w.heap.size w w') : DOpen w' base A c L d :=
  let ⟨xs, Bd, cB, h1, h2, h3, h4⟩ := h; ⟨xs, Bd, cB, h1.next hb, h2.keep (Apart2.next hb), h3.next hb, h4⟩
/-- an open piece closed -/
theorem DOpen.close {w : World} {base : Nat} {A : Option Addr} {c : Nat} {L : List Piece} {d : List UInt8} (h : DOpen w base A c L d) : DClosed w base A c (L ++ [deltaq.lit d]) := by
  obtain ⟨xs, Bd, cB, h1, h2, h3, h4⟩ := h
  refine ⟨_, by simpa using h1, RowsOf.snoc (piece_lit (h3.u8.2.in_row fun k hk hS => ⟨hS.1, hS.2, h4 k hk⟩)) (h2.keep fun k hk => ⟨hk.1, rfl⟩)⟩
/-- a row that grew by one closed piece -/
theorem DClosed.grow {w w' : World} {base : Nat} {A A' : Option Addr} {c' : Nat} {L : List Piece} {xs cs : List Value} {p : Piece} (h2 : RowsOf Piece.rep w (Apart w base A) L xs) (hg : Grew w w' A A') (hp : ∀ S, Piece.rep.rep w' S p cs) (ho : Own w' base 87 4 A' (L.length + 1) c' (xs ++ cs)) : DClosed w' base A' c' (L ++ [p]) :=
  ⟨_, by simpa using ho, RowsOf.snoc (hp _) (h2.keep (Apart.grew hg))⟩
/-- .. by an empty open one -/
theorem DOpen.fresh {w w' : World} {base : Nat} {A A' : Option Addr} {c' : Nat} {L : List Piece} {xs : List Value} (h2 : RowsOf Piece.rep w (Apart w base A) L xs) (hg : Grew w w' A A') (ho : Own w' base 87 4 A' (L.length + 1) c' (xs ++ [.bool false, .int .i64 0, .int .i64 0, .slice none 0 0])) : DOpen w' base A' c' L [] :=
  ⟨xs, none, 0, ho, (h2.keep (Apart.grew hg)).keep fun k hk => ⟨⟨hk, by simp [blkOf]⟩, rfl⟩, Own.nil _ _ _ _, Two.none_left _⟩
/-- one byte more in the open piece -/
theorem DOpen.more {W w5 : World} {base G M : Nat} {c : Nat} {L : List Piece} {d : List UInt8} {x : UInt8} {xs : List Value} {Bd A5 : Option Addr} {cB c5 : Nat} (hM : M = L.length) (h1 : Own W base 87 4 (some ⟨G, 0, none⟩) (M + 1) c (xs ++ [.bool false, .int .i64 0, .int .i64 0, .slice Bd d.length cB]))
    (h2 : RowsOf Piece.rep W (Apart2 W base (some ⟨G, 0, none⟩) Bd) L xs) (h4 : Two Bd (some ⟨G, 0, none⟩)) (hg : Grew W w5 Bd A5) (h5 : Own w5 base 5 1 A5 (d.length + 1) c5 (d.map u8v ++ [.int .u8 (x.toNat : Int)])) :
    DOpen (w5.setCell ⟨G, M * 4 + 3, none⟩ (.slice A5 (d.length + 1) c5)) base (some ⟨G, 0, none⟩) c L (d ++ [x]) := by
  subst hM
  have hG := h1.lt G rfl
  have h6 := (h1.kept' hg h4.symm).setAt (j := L.length * 4 + 3) (.slice A5 (d.length + 1) c5)
  have hT : Two A5 (some ⟨G, 0, none⟩) := h4.left hg (fun k hk => by cases hk; exact hG.2)
  have hl := h2.len
  rw [show Piece.rep.size = 4 from rfl] at hl
  have e1 : (xs ++ [Value.bool false, .int .i64 0, .int .i64 0, .slice Bd d.length cB]).set (L.length * 4 + 3) (.slice A5 (d.length + 1) c5) = xs ++ [.bool false, .int .i64 0, .int .i64 0, .slice A5 (d ++ [x]).length c5] := by
    rw [List.set_append_right _ _ (by omega), show L.length * 4 + 3 - xs.length = 3 by omega]
    simp
  rw [e1] at h6
  refine ⟨xs, A5, c5, h6, ?_, ?_, hT⟩
  · refine (h2.keep (Apart2.second hg)).keep fun k hk => ⟨⟨⟨hk.1.1, by simpa [World.setCell] using hk.1.2.1, hk.1.2.2⟩, hk.2⟩, Below.heap_setCell _ _ _ k (fun e => hk.1.2.2 (by first | exact congrArg some e | exact congrArg some e.symm))⟩
  · have h7 := h5.setCell (p := ⟨G, L.length * 4 + 3, none⟩) (fun e => hT G e rfl) (.slice A5 (d.length + 1) c5)
    simpa [u8v] using h7

/-- what stands in the slice of pieces at a place: nothing; whole pieces, the last a copy; an open piece -/
def DOut (o n : List UInt8) (w : World) (base k : Nat) (A : Option Addr) (N c : Nat) : Prop :=
  (N = 0 ∧ DClosed w base A c [] ∧ deltaq.pcs o n k none = deltaq.pcs o n 0 none) ∨
  (∃ L p, N = L.length + 1 ∧ N ≤ k ∧ p.copy = true ∧ DClosed w base A c (L ++ [p]) ∧ (L ++ [p]) ++ deltaq.pcs o n k none = deltaq.pcs o n 0 none) ∨
  (∃ L d, N = L.length + 1 ∧ N ≤ k ∧ d.length ≤ k ∧ DOpen w base A c L d ∧ L ++ deltaq.pcs o n k (some d) = deltaq.pcs o n 0 none)
theorem DOut.next {o n : List UInt8} {w w' : World} {base k : Nat} {A : Option Addr} {N c : Nat} (h : DOut o n w base k A N c) (hb : Below w.heap.size w w') : DOut o n w' base k A N c := by
  rcases h with ⟨h0, h1, h2⟩ | ⟨L, p, h0, hk, hp, h1, h2⟩ | ⟨L, d, h0, hk, hd, h1, h2⟩
  · exact .inl ⟨h0, h1.next hb, h2⟩
  · exact .inr (.inl ⟨L, p, h0, hk, hp, h1.next hb, h2⟩)
  · exact .inr (.inr ⟨L, d, h0, hk, hd, h1.next hb, h2⟩)
theorem DOut.le {o n : List UInt8} {w : World} {base k : Nat} {A : Option Addr} {N c : Nat} (h : DOut o n w base k A N c) : N ≤ k := by
  rcases h with ⟨h0, _⟩ | ⟨L, p, h0, hk, _⟩ | ⟨L, d, h0, hk, _⟩ <;> omega
/-- whole pieces, ahead of a copy -/
theorem DOut.hit {o n : List UInt8} {w : World} {base k : Nat} {A : Option Addr} {N c : Nat} (h : DOut o n w base k A N c) (hk : k < n.length) (h8 : 8 ≤ (deltaq.top o n k).2) :
    ∃ L, N = L.length ∧ DClosed w base A c L ∧ (L ++ [deltaq.cop (deltaq.top o n k)]) ++ deltaq.pcs o n (k + (deltaq.top o n k).2) none = deltaq.pcs o n 0 none := by
  rcases h with ⟨h0, h1, h2⟩ | ⟨L, p, h0, _, hp, h1, h2⟩ | ⟨L, d, h0, _, hd, h1, h2⟩
  · exact ⟨[], by simpa using h0, h1, by rw [← h2, deltaq.pcs_copy none hk h8]; simp⟩
  · exact ⟨L ++ [p], by simpa using h0, h1, by rw [← h2, deltaq.pcs_copy none hk h8]; simp⟩
  · exact ⟨L ++ [deltaq.lit d], by simpa using h0, h1.close, by rw [← h2, deltaq.pcs_copy (some d) hk h8]; simp⟩
theorem DOut.fin {o n : List UInt8} {w : World} {base : Nat} {A : Option Addr} {N c : Nat} (h : DOut o n w base n.length A N c) : ∃ L, N = L.length ∧ DClosed w base A c L ∧ deltaq.pcs o n 0 none = L := by
  rcases h with ⟨h0, h1, h2⟩ | ⟨L, p, h0, _, hp, h1, h2⟩ | ⟨L, d, h0, _, hd, h1, h2⟩
  · exact ⟨[], by simpa using h0, h1, by rw [← h2, deltaq.pcs_end none (Nat.le_refl _)]; simp⟩
  · exact ⟨L ++ [p], by simpa using h0, h1, by rw [← h2, deltaq.pcs_end none (Nat.le_refl _)]; simp⟩
  · exact ⟨L ++ [deltaq.lit d], by simpa using h0, h1.close, by rw [← h2, deltaq.pcs_end (some d) (Nat.le_refl _)]; simp⟩

/-- pieces, and a fault's number -/
def PcsRes (L : List Piece) (code : Int) (w : World) (e : Ending) (w' : World) : Prop :=
  ∃ A c, e = .returned (.tuple #[.slice A L.length c, .int .i64 code]) ∧ SlRep Piece.rep w' (fun k => w.heap.size ≤ k ∧ k < w'.heap.size) L A c ∧ Below w.heap.size w w'
theorem DClosed.rep {w : World} {base b0 : Nat} {A : Option Addr} {c : Nat} {L : List Piece} (h : DClosed w base A c L) (hb : b0 ≤ base) : SlRep Piece.rep w (fun k => b0 ≤ k ∧ k < w.heap.size) L A c := by
  obtain ⟨xs, h1, h2⟩ := h
  exact (h2.rep (size := 4) rfl (by decide) (fun k hk => ⟨Nat.le_trans hb hk.1, hk.2.1⟩) h1 (fun k hk => ⟨Nat.le_trans hb (h1.lt k hk).1, (h1.lt k hk).2⟩)).2

set_option maxRecDepth 100000 in
set_option maxHeartbeats 8000000 in
theorem delta_Delta_ok (o n : List UInt8) (A0 A1 : Option Addr) (c0 c1 : Nat) (w : World) (ho : SlRep Rep.u8 w (· < w.heap.size) o A0 c0) (hn : SlRep Rep.u8 w (· < w.heap.size) n A1 c1) (hlo : o.length ≤ 2048) (hln : n.length ≤ 2048) :
    Calls Try.prog 23 #[.slice A0 o.length c0, .slice A1 n.length c1] w (PcsRes (deltaq.pcs o n 0 none) 0 w) := by
  have HS := Lib.hid (delta_seeds o A0 c0 w ho hlo)
  have HO := Lib.hid ho
  have HN := Lib.hid hn
  clear ho hn
  go_enter Try.func23, Try.ntmps23
  go_wp2_with (first
    | (go_at_call 51; refine HS.out.mono ?_; rintro e w1 ⟨rfl, hgm, hb1⟩; have HGM := Lib.hid hgm; clear hgm)
    | fail)
  clear HS
  have hbm : w.heap.size < w1.heap.size := HGM.out.lt
  go_loopw [7, 8] (fun out at_ wr => ∃ (k N c' : Nat) (A' : Option Addr), at_ = .int .i64 k ∧ out = .slice A' N c' ∧ k ≤ n.length ∧ Hid (DOut o n wr w1.heap.size k A' N c') ∧ Below w1.heap.size w1 wr) (fun _ at_ _ => n.length - (intOf at_).toNat)
  case atStart => exact ⟨0, 0, 0, none, rfl, rfl, by omega, Lib.hid (.inl ⟨rfl, ⟨[], Own.nil _ _ _ _, rfl⟩, rfl⟩), Below.refl _ _⟩
  case round =>
    obtain ⟨k, N, c', A', rfl, rfl, hk, HD, hB⟩ := hrel
    rename World => wr
    have hszr := hB.size
    have hBw : Below w.heap.size w wr := hb1.trans (hB.mono (Nat.le_of_lt hbm))
    have hNk := HD.out.le
    by_cases hlt : k < n.length
    · have hlti : (k : Int) < (n.length : Int) := by omega
      have HNr : Hid (SlRep Rep.u8 wr (· < w.heap.size) n A1 c1) := Lib.hid (HN.out.keep fun q hq => ⟨hq, hBw.block q hq⟩)
      have HOr : Hid (SlRep Rep.u8 wr (· < w.heap.size) o A0 c0) := Lib.hid (HO.out.keep fun q hq => ⟨hq, hBw.block q hq⟩)
      have HDr : Hid (∀ W, Below wr.heap.size wr W → DOut o n W w1.heap.size k A' N c') := Lib.hid fun W hW => HD.out.next hW
      have HGr : Hid (∀ W, Below wr.heap.size wr W → Groups Try.prog 9 3 .i64 W w.heap.size w.heap.size 2048 (fun j => wr.heap.size ≤ j) (deltaq.posV o o.length)) := Lib.hid fun W hW => (HGM.out.next hB).keep (fun j hj _ => hW.block j hj) (fun j hj => .inr hj)
      obtain ⟨bb, oo, rfl, hbb, hcb⟩ := u8_at HNr.out hlt
      have hbw : bb < wr.heap.size := by omega
      have HCX : Hid (∀ W, Below wr.heap.size wr W → W.cell? ⟨bb, oo + k, none⟩ = some (.int .u8 (n.getD k 0).toNat)) := Lib.hid fun W hW => (hW.cell (p := ⟨bb, oo + k, none⟩) hbw).trans hcb
      have HTL := Lib.hid (deltaq.top_le o n k)
      clear HD hcb
      by_cases h8 : k + 8 ≤ n.length
      · have h8i : (k : Int) + 8 ≤ (n.length : Int) := by omega
        have hcl := fun W => run_cut_lh (P := Try.prog) elemU8 (some ⟨bb, oo, none⟩) n.length c1 k 8 (by have := HN.out.1; omega) (k : Int) ((k : Int) + 8) rfl rfl W
        have hlen : ((n.drop k).take 8).length = 8 := by simp; omega
        have HST : Hid (∀ W, Below wr.heap.size wr W → (convert 23 9 (.slice (cutA (some ⟨bb, oo, none⟩) c1 k 1) 8 (c1 - k))).run Try.prog W = .ok (.string (strOf (deltaq.sd n k))) W) := Lib.hid fun W hW => by
          have := run_string ((HNr.out.keep (w' := W) (S' := (· < w.heap.size)) fun q hq => ⟨hq, hW.block q (by omega)⟩).cut (f := k) (n := 8) h8)
          rw [hlen] at this
          exact this
        have hst := HST.out (wr.alloc (.cells #[.bool true, .int .i64 0, .int .i64 0, .slice none 0 0] 87)) (by repeat (first | (with_reducible exact Below.refl _ _) | (with_reducible assumption) | (with_reducible refine bset ?_ ?_ _) | (with_reducible refine balloc ?_ _) | (with_reducible refine Below.drew ?_) | (with_reducible refine bdrewN ?_ _) | (with_reducible refine bnext ?_ (by with_reducible assumption)) | exact Nat.le_refl _ | (simp; done) | omega | (simp; omega)))
        have HK := Lib.hid (deltaq.key_of (deltaq.sd n k) deltaq.sd_len)
        have HP := Lib.hid (deltaq.posV_at o n k)
        rw [show deltaq.keyV n k = .string (strOf (deltaq.sd n k)) from rfl] at HP
        clear HST hlen
        generalize strOf (deltaq.sd n k) = ky at *
        have HLE : Hid ((deltaq.all o n k).length ≤ o.length) := Lib.hid (deltaq.poss_len o _ o.length)
        go_wp2_with (first
          | (refine wp_lookup _ rfl _ _ _ rfl 68 deltaq.keyed Try.underlying93 (deltaq.zeroIs _) rfl (HGr.out _ (by repeat (first | (with_reducible exact Below.refl _ _) | (with_reducible assumption) | (with_reducible refine bset ?_ ?_ _) | (with_reducible refine balloc ?_ _) | (with_reducible refine Below.drew ?_) | (with_reducible refine bdrewN ?_ _) | (with_reducible refine bnext ?_ (by with_reducible assumption)) | exact Nat.le_refl _ | (simp; done) | omega | (simp; omega)))) (.string ky) _ rfl HK.out ?_; intro Am m1 cm ho1 hno1; have HO1 := Lib.hid ho1; clear ho1)
          | fail)
        have HM : Hid (m1 = (deltaq.all o n k).length) := Lib.hid (by
          have h1 := HO1.out.len
          rw [HP.out, List.length_map, List.length_map] at h1
          omega)
        have hm4 : m1 ≤ 2048 := by have := HLE.out; have := HM.out; omega
        have HC : Hid (∀ j, j < m1 → ∃ g, Am = some ⟨g, 0, none⟩ ∧ g < wr.heap.size ∧ ∀ W, Below wr.heap.size wr W → W.cell? ⟨g, j, none⟩ = some (.int .i64 ((deltaq.all o n k).getD j 0 : Nat))) := Lib.hid (fun j hj => by
          have hm1 := HM.out
          obtain ⟨g, e1, _, _, hc⟩ := HO1.out.cell (j := j) (u := .int .i64 ((deltaq.all o n k).getD j 0 : Nat)) (by
            rw [HP.out, List.getElem?_map, List.getElem?_map, List.getElem?_eq_getElem (by omega), List.getD_eq_getElem?_getD, List.getElem?_eq_getElem (by omega)]
            rfl)
          have hg : g < wr.heap.size := Nat.lt_of_not_le (hno1 g (by rw [e1]; rfl))
          exact ⟨g, e1, hg, fun W hW => (hW.cell (p := ⟨g, j, none⟩) hg).trans ((((Below.refl _ _).alloc (Nat.le_refl _) _).cell (p := ⟨g, j, none⟩) hg).symm.trans hc)⟩)
        clear HO1 hno1 HGr HP HK hcl hst
        go_loopw [44] (fun i wq => ∃ j kk : Nat, i = .int .i64 j ∧ Hid (deltaq.Seen o n k j kk) ∧ wq.cell? ⟨wr.heap.size, 0, none⟩ = some (.bool true) ∧ wq.cell? ⟨wr.heap.size, 1, none⟩ = some (.int .i64 ((deltaq.low (deltaq.best o n k kk)).1 : Nat)) ∧ wq.cell? ⟨wr.heap.size, 2, none⟩ = some (.int .i64 ((deltaq.low (deltaq.best o n k kk)).2 : Nat)) ∧ wq.cell? ⟨wr.heap.size, 3, none⟩ = some (.slice none 0 0) ∧
          wq.frozen? ⟨wr.heap.size, 1, none⟩ = false ∧ wq.frozen? ⟨wr.heap.size, 2, none⟩ = false ∧ wr.heap.size < wq.heap.size ∧ Below wr.heap.size wr wq) (fun i _ => m1 - (intOf i).toNat)
        case atStart => exact ⟨0, 0, rfl, Lib.hid (deltaq.seen_start o n k), by simp [go_sem], by simp [go_sem, deltaq.low, deltaq.best], by simp [go_sem, deltaq.low, deltaq.best], by simp [go_sem], by simp [go_sem], by simp [go_sem], by simp, (by repeat (first | (with_reducible exact Below.refl _ _) | (with_reducible assumption) | (with_reducible refine bset ?_ ?_ _) | (with_reducible refine balloc ?_ _) | (with_reducible refine Below.drew ?_) | (with_reducible refine bdrewN ?_ _) | (with_reducible refine bnext ?_ (by with_reducible assumption)) | exact Nat.le_refl _ | (simp; done) | omega | (simp; omega)))⟩
        case round =>
          obtain ⟨j, kk, rfl, HSn, d0, d1, d2, d3, f1, f2, hT, hBq⟩ := hrel
          rename World => wq
          by_cases hjm : j < m1
          · have hjmi : (j : Int) < (m1 : Int) := by omega
            obtain ⟨g, rfl, hg, hcv⟩ := HC.out j hjm
            have hc := hcv wq hBq
            have hgw : g < wq.heap.size := by omega
            have HNX := Lib.hid (deltaq.seen_next HSn.out h8 (j := j) (by have := HM.out; omega))
            have HMP := Lib.hid (deltaq.mem_poss.1 (deltaq.poss_at (o := o) (q := deltaq.sd n k) (k := o.length) (j := j) (by have := HM.out; unfold deltaq.all at this; omega)))
            rw [show deltaq.poss o (deltaq.sd n k) o.length = deltaq.all o n k from rfl] at HMP
            clear HSn hcv HC HM HLE HDr HCX HTL
            generalize (deltaq.all o n k).getD j 0 = v at *
            have hv : v < o.length := HMP.out.1
            have hvi : (v : Int) ≤ (o.length : Int) := by omega
            have hki : (k : Int) ≤ (n.length : Int) := by omega
            have hcu := fun W => run_cut_l (P := Try.prog) elemU8 A0 o.length c0 v (by omega) (v : Int) rfl W
            have hcw := fun W => run_cut_l (P := Try.prog) elemU8 (some ⟨bb, oo, none⟩) n.length c1 k (by omega) (k : Int) rfl W
            have hld : (o.drop v).length = o.length - v := by simp
            have hlk : (n.drop k).length = n.length - k := by simp
            have HAL : Hid (∀ W, Below wr.heap.size wr W → Calls Try.prog 52 #[.slice (cutA A0 c0 v 1) (o.length - v) (c0 - v), .slice (cutA (some ⟨bb, oo, none⟩) c1 k 1) (n.length - k) (c1 - k)] W fun e w' => e = .returned (.int .i64 (deltaq.run o n v k)) ∧ ∃ m, w' = W.drewN m) := Lib.hid fun W hW => by
              have := delta_alike (o.drop v) (n.drop k) (cutA A0 c0 v 1) (cutA (some ⟨bb, oo, none⟩) c1 k 1) (c0 - v) (c1 - k) W ((HOr.out.keep (w' := W) (S' := (· < w.heap.size)) fun q hq => ⟨hq, hW.block q (by omega)⟩).drop (by omega)) ((HNr.out.keep (w' := W) (S' := (· < w.heap.size)) fun q hq => ⟨hq, hW.block q (by omega)⟩).drop (by omega)) (by rw [hld]; omega) (by rw [hlk]; omega)
              rw [hld, hlk] at this
              exact this
            obtain ⟨HN1, HN2⟩ : Hid (deltaq.Seen o n k (j + 1) (v + 1)) ∧ Hid _ := ⟨Lib.hid HNX.out.1, Lib.hid HNX.out.2⟩
            clear HNX HMP hld hlk
            generalize deltaq.low (deltaq.best o n k kk) = s at *
            generalize deltaq.run o n v k = r at *
            by_cases hgt : s.2 < r
            · have hgi : (s.2 : Int) < (r : Int) := by omega
              have HV : Hid (deltaq.low (deltaq.best o n k (v + 1)) = (v, r)) := Lib.hid (by rw [HN2.out, if_pos hgt])
              clear HN2
              go_wp2_with fail
              go_quiet ((go_at_call 52; exact Calls.quiet_of (HAL.out _ (by repeat (first | (with_reducible exact Below.refl _ _) | (with_reducible assumption) | (with_reducible refine bset ?_ ?_ _) | (with_reducible refine balloc ?_ _) | (with_reducible refine Below.drew ?_) | (with_reducible refine bdrewN ?_ _) | (with_reducible refine bnext ?_ (by with_reducible assumption)) | exact Nat.le_refl _ | (simp; done) | omega | (simp; omega))))))
              go_wp2
              go_roundw
              case rel => exact ⟨j + 1, v + 1, by go_num, HN1, by simp [go_sem, *], by rw [HV.out]; simp [go_sem, *], by rw [HV.out]; simp [go_sem, *], by simp [go_sem, *], by simp [go_sem, *], by simp [go_sem, *], by simpa using hT, (by repeat (first | (with_reducible exact Below.refl _ _) | (with_reducible assumption) | (with_reducible refine bset ?_ ?_ _) | (with_reducible refine balloc ?_ _) | (with_reducible refine Below.drew ?_) | (with_reducible refine bdrewN ?_ _) | (with_reducible refine bnext ?_ (by with_reducible assumption)) | exact Nat.le_refl _ | (simp; done) | omega | (simp; omega)))⟩
              case measure => simp [intOf]; omega
            · have hgi : ¬ (s.2 : Int) < (r : Int) := by omega
              have HV : Hid (deltaq.low (deltaq.best o n k (v + 1)) = s) := Lib.hid (by rw [HN2.out, if_neg hgt])
              clear HN2
              go_wp2_with fail
              go_quiet ((go_at_call 52; exact Calls.quiet_of (HAL.out _ (by repeat (first | (with_reducible exact Below.refl _ _) | (with_reducible assumption) | (with_reducible refine bset ?_ ?_ _) | (with_reducible refine balloc ?_ _) | (with_reducible refine Below.drew ?_) | (with_reducible refine bdrewN ?_ _) | (with_reducible refine bnext ?_ (by with_reducible assumption)) | exact Nat.le_refl _ | (simp; done) | omega | (simp; omega))))))
              go_wp2
              go_roundw
              case rel => exact ⟨j + 1, v + 1, by go_num, HN1, by simpa [go_sem] using d0, by rw [HV.out]; simpa [go_sem] using d1, by rw [HV.out]; simpa [go_sem] using d2, by simpa [go_sem] using d3, by simpa [go_sem] using f1, by simpa [go_sem] using f2, by simpa using hT, (by repeat (first | (with_reducible exact Below.refl _ _) | (with_reducible assumption) | (with_reducible refine bset ?_ ?_ _) | (with_reducible refine balloc ?_ _) | (with_reducible refine Below.drew ?_) | (with_reducible refine bdrewN ?_ _) | (with_reducible refine bnext ?_ (by with_reducible assumption)) | exact Nat.le_refl _ | (simp; done) | omega | (simp; omega)))⟩
              case measure => simp [intOf]; omega
          · have hEq : Hid (deltaq.low (deltaq.top o n k) = deltaq.low (deltaq.best o n k kk)) := Lib.hid (deltaq.seen_end (by have := HM.out; have := HSn.out.2.1; rw [show (deltaq.all o n k).length = j by omega]; exact HSn.out) h8)
            have hjm' : ¬ (j : Int) < (m1 : Int) := by omega
            clear HC HM HLE HSn
            rw [← hEq.out] at d1 d2
            clear hEq
            by_cases hit : 8 ≤ (deltaq.top o n k).2
            · have hlow : deltaq.low (deltaq.top o n k) = deltaq.top o n k := if_neg (by omega)
              rw [hlow] at d1 d2
              obtain ⟨L, rfl, ⟨xs, hx1, hx2⟩, hL⟩ := (HDr.out wr (Below.refl _ _)).hit hlt hit
              have HX1 := Lib.hid hx1
              have HX2 := Lib.hid hx2
              have HLL := Lib.hid hL
              have hle := HTL.out
              clear hx1 hx2 hL HDr HCX HTL hlow
              generalize deltaq.top o n k = s at *
              have hs0 : (0 : Int) < (s.2 : Int) := by omega
              have hBq2 : Below w1.heap.size w1 wq := hB.trans (hBq.mono hszr)
              go_wp2_with (first
                | (at_builtin; refine wp_app _ rfl _ _ _ rfl elemPiece w1.heap.size A' _ c' _ rfl ((HX1.out.next hBq).alloc _) _ 1 1 [.bool true, .int .i64 (s.1 : Nat), .int .i64 (s.2 : Nat), .slice none 0 0] rfl rfl (Cells.newAt _ _ _ rfl) (by simp [Value.oneCell']) (by omega) (by unfold maxLen; omega) (by have := hBq2.size; simp; omega) ?_; intro A3 c3 w3 ho3 hg3; have HO3 := Lib.hid ho3; clear ho3; have hct := (hg3.cell (b := wr.heap.size) 2 (by simp; omega) (fun q hq e => by have h1 := HX1.out.lt q hq; omega)).trans ((World.cell?_alloc_old wq _ _ (by simp; omega)).trans d2))
                | fail)
              have HO4 := Lib.hid (DClosed.grow (HX2.out.keep (w' := wq.alloc _) (fun q hq => Apart.next (balloc hBq _) q hq)) hg3 (fun S => piece_cop s) HO3.out)
              have hB3 : Below w1.heap.size w1 w3 := Grew.step (balloc hBq2 _) hg3 (fun q hq => (HX1.out.lt q hq).1)
              go_roundw
              case rel => exact ⟨k + s.2, L.length + 1, c3, A3, by go_num, rfl, by omega, Lib.hid (.inr (.inl ⟨L, deltaq.cop s, rfl, by omega, rfl, HO4.out, HLL.out⟩)), hB3⟩
              case measure => simp [intOf]; omega
            · have hlow : deltaq.low (deltaq.top o n k) = (0, 0) := if_pos (by omega)
              rw [hlow] at d1 d2
              have d2 : wq.cell? ⟨wr.heap.size, 2, none⟩ = some (.int .i64 0) := d2
              have hx := HCX.out wq hBq
              have hBq2 : Below w1.heap.size w1 wq := hB.trans (hBq.mono hszr)
              have HPL := Lib.hid (fun d' => deltaq.pcs_lit (o := o) (n := n) (a := k) d' hlt (by omega))
              have HD0 := Lib.hid (HDr.out wr (Below.refl _ _))
              clear HDr HCX HTL hit
              generalize n.getD k 0 = x at *
              rcases HD0.out with ⟨hN, ⟨xs0, hx1, hx2⟩, hE⟩ | ⟨L, p, hN, hNk1, hp, ⟨xs0, hx1, hx2⟩, hE⟩ | ⟨L, d, hN, hNk1, hdk, ⟨xs, Bd, cB, hq1, hq2, hq3, hq4⟩, hE⟩
              · have HEQ : Hid (([] : List Piece) ++ deltaq.pcs o n (k + 1) (some ([] ++ [x])) = deltaq.pcs o n 0 none) := Lib.hid (by rw [← hE, HPL.out none]; rfl)
                have HL0 : Hid (N = ([] : List Piece).length) := Lib.hid hN
                rw [← HL0.out] at hx1
                have HX1 := Lib.hid hx1
                have HX2 := Lib.hid hx2
                have hz : ((N : Int) == 0) = true := by rw [beq_iff_eq]; omega
                clear hx1 hx2 hE HPL HD0 hN
                go_wp2_with (first
                  | (at_builtin; go_loud (refine wp_app _ rfl _ _ _ rfl elemPiece w1.heap.size A' _ c' _ rfl ((HX1.out.next hBq).alloc _) _ 1 1 [.bool false, .int .i64 0, .int .i64 0, .slice none 0 0] rfl rfl (Cells.newAt _ _ _ (by first | rfl | simp)) (by simp [Value.oneCell']) (by omega) (by unfold maxLen; omega) (by have := hBq2.size; simp at this ⊢; omega) ?_; intro A3 c3 w3 ho3 hg3; have hx3 : w3.cell? ⟨bb, oo + k, none⟩ = some (.int .u8 (x.toNat : Int)) := (hg3.cell (b := bb) (oo + k) (by have := hBq.size; simp; omega) (fun q hq e => by have h1 := HX1.out.lt q hq; omega)).trans ((World.cell?_alloc_old _ _ _ (by have := hBq.size; simp; omega)).trans hx); obtain ⟨G, rfl, hG1, hG2⟩ := ho3.some (by simp)))
                  | fail)
                have hBT : Below w1.heap.size w1 w3 := Grew.step (balloc hBq2 _) hg3 (fun q hq => (HX1.out.lt q hq).1)
                rw [HL0.out] at ho3
                obtain ⟨xs, Bd, cB, hq1, hq2, hq3, hq4⟩ := DOpen.fresh (HX2.out.keep (fun q hq => Apart.next (balloc hBq _) q hq)) hg3 ho3
                rw [← HL0.out] at hq1
                clear ho3 hg3 HX1 HX2
                have HMO : Hid (∀ m ob, Own ((w3.drewN m).alloc ob) w1.heap.size 87 4 (some ⟨G, 0, none⟩) (N + 1) c3 (xs ++ [.bool false, .int .i64 0, .int .i64 0, .slice Bd ([] : List UInt8).length cB]) ∧ RowsOf Piece.rep ((w3.drewN m).alloc ob) (Apart2 ((w3.drewN m).alloc ob) w1.heap.size (some ⟨G, 0, none⟩) Bd) ([] : List Piece) xs ∧ Own ((w3.drewN m).alloc ob) w1.heap.size 5 1 Bd ([] : List UInt8).length cB (List.map u8v [])) := Lib.hid fun m ob => ⟨hq1.next (balloc (bdrewN (bself _) _) _), hq2.keep (Apart2.next (balloc (bdrewN (bself _) _) _)), hq3.next (balloc (bdrewN (bself _) _) _)⟩
                have HSX : Hid (∀ m ob, G < ((w3.drewN m).alloc ob).heap.size) := Lib.hid fun m ob => ((HMO.out m ob).1.lt G rfl).2
                have HBX : Hid (∀ m ob, w1.heap.size ≤ ((w3.drewN m).alloc ob).heap.size) := Lib.hid fun m ob => Nat.le_of_lt (Nat.lt_of_le_of_lt ((HMO.out m ob).1.lt G rfl).1 ((HMO.out m ob).1.lt G rfl).2)
                have hl := hq2.len
                rw [show Piece.rep.size = 4 from rfl, ← HL0.out] at hl
                have HCD : Hid (∀ m ob, ((w3.drewN m).alloc ob).cell? ⟨G, N * 4 + 3, none⟩ = some (.slice Bd ([] : List UInt8).length cB)) := Lib.hid fun m ob => by
                  obtain ⟨g', e, _, _, hc⟩ := (HMO.out m ob).1.cell (j := N * 4 + 3) (u := .slice Bd ([] : List UInt8).length cB) (by rw [List.getElem?_append_right (by omega), show N * 4 + 3 - xs.length = 3 by omega]; rfl)
                  cases e
                  exact hc
                have HFD : Hid (∀ m ob, ((w3.drewN m).alloc ob).frozen? ⟨G, N * 4 + 3, none⟩ = false) := Lib.hid fun m ob => (HMO.out m ob).1.frozenAt _
                have hcD := HCD.out
                have hc3 : w3.cell? ⟨G, N * 4 + 3, none⟩ = some (.slice Bd ([] : List UInt8).length cB) := (World.cell?_alloc_old (w3.drewN 0) (.cells #[] 0) ⟨G, N * 4 + 3, none⟩ (Nat.ne_of_lt hG2)).symm.trans (HCD.out 0 (.cells #[] 0))
                have HNE : Hid (∀ q, blkOf Bd = some q → q ≠ G) := Lib.hid fun q hq e => hq4 q hq (by rw [e]; rfl)
                have HQ4 := Lib.hid hq4
                clear hq1 hq2 hq3 hq4 hl
                go_region_law
                  (first
                    | (go_loud (refine step_app _ (by rfl) _ _ _ (by rfl) elemU8 w1.heap.size Bd ([] : List UInt8).length cB _ (by rfl) (HMO.out _ _).2.2 (some ⟨w3.heap.size, 0, none⟩) 1 1 [.int .u8 (x.toNat : Int)] (by rfl) (by rfl) (Cells.newAt _ _ _ (by first | rfl | (simp; done))) (by simp [Value.oneCell']) (by first | omega | (simp; done) | (simp; omega)) (by unfold maxLen; first | omega | (simp; done) | (simp; omega)) (HBX.out _ _) ?_; intro A5 c5 w5 hO5 hg5; have x5 := (hg5.cell (b := G) (N * 4 + 3) (HSX.out _ _) HNE.out).trans (HCD.out _ _); have x6 := (hg5.frozen (b := G) (N * 4 + 3) (HSX.out _ _) HNE.out).trans (HFD.out _ _)))
                    | fail)
                all_goals
                  have HDD := Lib.hid (DOpen.more (d := []) HL0.out (HMO.out _ _).1 (HMO.out _ _).2.1 HQ4.out hg5 hO5)
                  have hB5 : Below w1.heap.size w1 w5 := Grew.step (balloc (bdrewN hBT _) _) hg5 (fun q hq => ((HMO.out 0 (.cells #[] 0)).2.2.lt q hq).1)
                  have hB6 : Below w1.heap.size w1 (w5.setCell ⟨G, N * 4 + 3, none⟩ (.slice A5 (([] : List UInt8).length + 1) c5)) := hB5.setCell (p := ⟨G, _, none⟩) hG1 _
                  clear hg5 hO5 x5 x6 HMO HSX HBX HCD HFD hcD hc3 hB5
                  go_wp2
                  go_roundw
                  case rel => exact ⟨k + 1, N + 1, c3, some ⟨G, 0, none⟩, by go_num, rfl, by omega, Lib.hid (.inr (.inr ⟨([] : List Piece), [] ++ [x], by rw [← HL0.out], by omega, by simp <;> omega, HDD.out, HEQ.out⟩)), hB6⟩
                  case measure => simp [intOf]; omega
              · have HEQ : Hid ((L ++ [p]) ++ deltaq.pcs o n (k + 1) (some ([] ++ [x])) = deltaq.pcs o n 0 none) := Lib.hid (by rw [← hE, HPL.out none]; rfl)
                have HL0 : Hid (N = (L ++ [p]).length) := Lib.hid (by simp; exact hN)
                rw [← HL0.out] at hx1
                obtain ⟨cs, hcs, hat⟩ := hx2.at (i := L.length) (a := p) (by simp)
                obtain ⟨Ap, cp, rfl, _⟩ := Piece.rep_iff.1 hcs
                obtain ⟨g, rfl, hga, hgb, hcg⟩ := hx1.cell (hat 0 _ rfl)
                rw [hp, show Piece.rep.size = 4 from rfl, Nat.add_zero] at hcg
                have hcg2 := (hBq.cell (p := ⟨g, L.length * 4, none⟩) hgb).trans hcg
                have hz : ((N : Int) == 0) = false := by rw [beq_eq_false_iff_ne]; omega
                have hqi : (N : Int) - 1 = (L.length : Int) := by omega
                have hqn : (L.length : Int) < (N : Int) := by omega
                have HX1 := Lib.hid hx1
                have HX2 := Lib.hid hx2
                clear hx1 hx2 hcs hat hcg hE HPL HD0 hN
                go_wp2_with (first
                  | (at_builtin; go_loud (refine wp_app _ rfl _ _ _ rfl elemPiece w1.heap.size (some ⟨g, 0, none⟩) _ c' _ rfl ((HX1.out.next hBq).alloc _) _ 1 1 [.bool false, .int .i64 0, .int .i64 0, .slice none 0 0] rfl rfl (Cells.newAt _ _ _ (by first | rfl | simp)) (by simp [Value.oneCell']) (by omega) (by unfold maxLen; omega) (by have := hBq2.size; simp at this ⊢; omega) ?_; intro A3 c3 w3 ho3 hg3; have hx3 : w3.cell? ⟨bb, oo + k, none⟩ = some (.int .u8 (x.toNat : Int)) := (hg3.cell (b := bb) (oo + k) (by have := hBq.size; simp; omega) (fun q hq e => by have h1 := HX1.out.lt q hq; omega)).trans ((World.cell?_alloc_old _ _ _ (by have := hBq.size; simp; omega)).trans hx); obtain ⟨G, rfl, hG1, hG2⟩ := ho3.some (by simp)))
                  | fail)
                have hBT : Below w1.heap.size w1 w3 := Grew.step (balloc hBq2 _) hg3 (fun q hq => (HX1.out.lt q hq).1)
                rw [HL0.out] at ho3
                obtain ⟨xs, Bd, cB, hq1, hq2, hq3, hq4⟩ := DOpen.fresh (HX2.out.keep (fun q hq => Apart.next (balloc hBq _) q hq)) hg3 ho3
                rw [← HL0.out] at hq1
                clear ho3 hg3 HX1 HX2
                have HMO : Hid (∀ m ob, Own ((w3.drewN m).alloc ob) w1.heap.size 87 4 (some ⟨G, 0, none⟩) (N + 1) c3 (xs ++ [.bool false, .int .i64 0, .int .i64 0, .slice Bd ([] : List UInt8).length cB]) ∧ RowsOf Piece.rep ((w3.drewN m).alloc ob) (Apart2 ((w3.drewN m).alloc ob) w1.heap.size (some ⟨G, 0, none⟩) Bd) (L ++ [p]) xs ∧ Own ((w3.drewN m).alloc ob) w1.heap.size 5 1 Bd ([] : List UInt8).length cB (List.map u8v [])) := Lib.hid fun m ob => ⟨hq1.next (balloc (bdrewN (bself _) _) _), hq2.keep (Apart2.next (balloc (bdrewN (bself _) _) _)), hq3.next (balloc (bdrewN (bself _) _) _)⟩
                have HSX : Hid (∀ m ob, G < ((w3.drewN m).alloc ob).heap.size) := Lib.hid fun m ob => ((HMO.out m ob).1.lt G rfl).2
                have HBX : Hid (∀ m ob, w1.heap.size ≤ ((w3.drewN m).alloc ob).heap.size) := Lib.hid fun m ob => Nat.le_of_lt (Nat.lt_of_le_of_lt ((HMO.out m ob).1.lt G rfl).1 ((HMO.out m ob).1.lt G rfl).2)
                have hl := hq2.len
                rw [show Piece.rep.size = 4 from rfl, ← HL0.out] at hl
                have HCD : Hid (∀ m ob, ((w3.drewN m).alloc ob).cell? ⟨G, N * 4 + 3, none⟩ = some (.slice Bd ([] : List UInt8).length cB)) := Lib.hid fun m ob => by
                  obtain ⟨g', e, _, _, hc⟩ := (HMO.out m ob).1.cell (j := N * 4 + 3) (u := .slice Bd ([] : List UInt8).length cB) (by rw [List.getElem?_append_right (by omega), show N * 4 + 3 - xs.length = 3 by omega]; rfl)
                  cases e
                  exact hc
                have HFD : Hid (∀ m ob, ((w3.drewN m).alloc ob).frozen? ⟨G, N * 4 + 3, none⟩ = false) := Lib.hid fun m ob => (HMO.out m ob).1.frozenAt _
                have hcD := HCD.out
                have hc3 : w3.cell? ⟨G, N * 4 + 3, none⟩ = some (.slice Bd ([] : List UInt8).length cB) := (World.cell?_alloc_old (w3.drewN 0) (.cells #[] 0) ⟨G, N * 4 + 3, none⟩ (Nat.ne_of_lt hG2)).symm.trans (HCD.out 0 (.cells #[] 0))
                have HNE : Hid (∀ q, blkOf Bd = some q → q ≠ G) := Lib.hid fun q hq e => hq4 q hq (by rw [e]; rfl)
                have HQ4 := Lib.hid hq4
                clear hq1 hq2 hq3 hq4 hl
                go_region_law
                  (first
                    | (go_loud (refine step_app _ (by rfl) _ _ _ (by rfl) elemU8 w1.heap.size Bd ([] : List UInt8).length cB _ (by rfl) (HMO.out _ _).2.2 (some ⟨w3.heap.size, 0, none⟩) 1 1 [.int .u8 (x.toNat : Int)] (by rfl) (by rfl) (Cells.newAt _ _ _ (by first | rfl | (simp; done))) (by simp [Value.oneCell']) (by first | omega | (simp; done) | (simp; omega)) (by unfold maxLen; first | omega | (simp; done) | (simp; omega)) (HBX.out _ _) ?_; intro A5 c5 w5 hO5 hg5; have x5 := (hg5.cell (b := G) (N * 4 + 3) (HSX.out _ _) HNE.out).trans (HCD.out _ _); have x6 := (hg5.frozen (b := G) (N * 4 + 3) (HSX.out _ _) HNE.out).trans (HFD.out _ _)))
                    | fail)
                all_goals
                  have HDD := Lib.hid (DOpen.more (d := []) HL0.out (HMO.out _ _).1 (HMO.out _ _).2.1 HQ4.out hg5 hO5)
                  have hB5 : Below w1.heap.size w1 w5 := Grew.step (balloc (bdrewN hBT _) _) hg5 (fun q hq => ((HMO.out 0 (.cells #[] 0)).2.2.lt q hq).1)
                  have hB6 : Below w1.heap.size w1 (w5.setCell ⟨G, N * 4 + 3, none⟩ (.slice A5 (([] : List UInt8).length + 1) c5)) := hB5.setCell (p := ⟨G, _, none⟩) hG1 _
                  clear hg5 hO5 x5 x6 HMO HSX HBX HCD HFD hcD hc3 hB5
                  go_wp2
                  go_roundw
                  case rel => exact ⟨k + 1, N + 1, c3, some ⟨G, 0, none⟩, by go_num, rfl, by omega, Lib.hid (.inr (.inr ⟨(L ++ [p]), [] ++ [x], by rw [← HL0.out], by omega, by simp <;> omega, HDD.out, HEQ.out⟩)), hB6⟩
                  case measure => simp [intOf]; omega
              · obtain ⟨G, rfl, hG1, hG0⟩ := hq1.some (by simp)
                have HEQ : Hid (L ++ deltaq.pcs o n (k + 1) (some (d ++ [x])) = deltaq.pcs o n 0 none) := Lib.hid (by rw [← hE, HPL.out (some d)]; rfl)
                obtain ⟨M, hM⟩ : ∃ M, M = L.length := ⟨_, rfl⟩
                rw [← hM] at hN hq1
                have HL0 := Lib.hid hM
                subst hN
                have hz : ((M : Int) + 1 == 0) = false := by rw [beq_eq_false_iff_ne]; omega
                have hl0 := hq2.len
                rw [show Piece.rep.size = 4 from rfl, ← HL0.out] at hl0
                have hcf : (wq).cell? ⟨G, M * 4, none⟩ = some (.bool false) := (hBq.cell (p := ⟨G, M * 4, none⟩) hG0).trans (by
                  obtain ⟨g', e, _, _, hc⟩ := hq1.cell (j := M * 4) (u := .bool false) (by rw [List.getElem?_append_right (by omega), show M * 4 - xs.length = 0 by omega]; rfl)
                  cases e
                  exact hc)
                have hBT := hBq2
                have hG2 : G < (wq).heap.size := Nat.lt_of_lt_of_le hG0 hBq.size
                have hq1 := hq1.next hBq
                have hq2 := hq2.keep (Apart2.next hBq)
                have hq3 := hq3.next hBq
                clear hE HPL HD0 hM hl0
                go_wp2_with fail
                have HMO : Hid (∀ m ob, Own ((wq.drewN m).alloc ob) w1.heap.size 87 4 (some ⟨G, 0, none⟩) (M + 1) c' (xs ++ [.bool false, .int .i64 0, .int .i64 0, .slice Bd (d : List UInt8).length cB]) ∧ RowsOf Piece.rep ((wq.drewN m).alloc ob) (Apart2 ((wq.drewN m).alloc ob) w1.heap.size (some ⟨G, 0, none⟩) Bd) L xs ∧ Own ((wq.drewN m).alloc ob) w1.heap.size 5 1 Bd (d : List UInt8).length cB (List.map u8v d)) := Lib.hid fun m ob => ⟨hq1.next (balloc (bdrewN (bself _) _) _), hq2.keep (Apart2.next (balloc (bdrewN (bself _) _) _)), hq3.next (balloc (bdrewN (bself _) _) _)⟩
                have HSX : Hid (∀ m ob, G < ((wq.drewN m).alloc ob).heap.size) := Lib.hid fun m ob => ((HMO.out m ob).1.lt G rfl).2
                have HBX : Hid (∀ m ob, w1.heap.size ≤ ((wq.drewN m).alloc ob).heap.size) := Lib.hid fun m ob => Nat.le_of_lt (Nat.lt_of_le_of_lt ((HMO.out m ob).1.lt G rfl).1 ((HMO.out m ob).1.lt G rfl).2)
                have hl := hq2.len
                rw [show Piece.rep.size = 4 from rfl, ← HL0.out] at hl
                have HCD : Hid (∀ m ob, ((wq.drewN m).alloc ob).cell? ⟨G, M * 4 + 3, none⟩ = some (.slice Bd (d : List UInt8).length cB)) := Lib.hid fun m ob => by
                  obtain ⟨g', e, _, _, hc⟩ := (HMO.out m ob).1.cell (j := M * 4 + 3) (u := .slice Bd (d : List UInt8).length cB) (by rw [List.getElem?_append_right (by omega), show M * 4 + 3 - xs.length = 3 by omega]; rfl)
                  cases e
                  exact hc
                have HFD : Hid (∀ m ob, ((wq.drewN m).alloc ob).frozen? ⟨G, M * 4 + 3, none⟩ = false) := Lib.hid fun m ob => (HMO.out m ob).1.frozenAt _
                have hcD := HCD.out
                have hc3 : wq.cell? ⟨G, M * 4 + 3, none⟩ = some (.slice Bd (d : List UInt8).length cB) := (World.cell?_alloc_old (wq.drewN 0) (.cells #[] 0) ⟨G, M * 4 + 3, none⟩ (Nat.ne_of_lt hG2)).symm.trans (HCD.out 0 (.cells #[] 0))
                have HNE : Hid (∀ q, blkOf Bd = some q → q ≠ G) := Lib.hid fun q hq e => hq4 q hq (by rw [e]; rfl)
                have HQ4 := Lib.hid hq4
                clear hq1 hq2 hq3 hq4 hl
                go_region_law
                  (first
                    | (go_loud (refine step_app _ (by rfl) _ _ _ (by rfl) elemU8 w1.heap.size Bd (d : List UInt8).length cB _ (by rfl) (HMO.out _ _).2.2 (some ⟨wq.heap.size, 0, none⟩) 1 1 [.int .u8 (x.toNat : Int)] (by rfl) (by rfl) (Cells.newAt _ _ _ (by first | rfl | (simp; done))) (by simp [Value.oneCell']) (by first | omega | (simp; done) | (simp; omega)) (by unfold maxLen; first | omega | (simp; done) | (simp; omega)) (HBX.out _ _) ?_; intro A5 c5 w5 hO5 hg5; have x5 := (hg5.cell (b := G) (M * 4 + 3) (HSX.out _ _) HNE.out).trans (HCD.out _ _); have x6 := (hg5.frozen (b := G) (M * 4 + 3) (HSX.out _ _) HNE.out).trans (HFD.out _ _)))
                    | fail)
                all_goals
                  have HDD := Lib.hid (DOpen.more (d := d) HL0.out (HMO.out _ _).1 (HMO.out _ _).2.1 HQ4.out hg5 hO5)
                  have hB5 : Below w1.heap.size w1 w5 := Grew.step (balloc (bdrewN hBT _) _) hg5 (fun q hq => ((HMO.out 0 (.cells #[] 0)).2.2.lt q hq).1)
                  have hB6 : Below w1.heap.size w1 (w5.setCell ⟨G, M * 4 + 3, none⟩ (.slice A5 ((d : List UInt8).length + 1) c5)) := hB5.setCell (p := ⟨G, _, none⟩) hG1 _
                  clear hg5 hO5 x5 x6 HMO HSX HBX HCD HFD hcD hc3 hB5
                  go_wp2
                  go_roundw
                  case rel => exact ⟨k + 1, M + 1, c', some ⟨G, 0, none⟩, by go_num, rfl, by omega, Lib.hid (.inr (.inr ⟨L, d ++ [x], by rw [← HL0.out], by omega, by simp <;> omega, HDD.out, HEQ.out⟩)), hB6⟩
                  case measure => simp [intOf]; omega
      · have h8i : ¬ (k : Int) + 8 ≤ (n.length : Int) := by omega
        have hit : ¬ 8 ≤ (deltaq.top o n k).2 := by have := HTL.out.2; omega
        have hBq : Below wr.heap.size wr (wr.alloc (.cells #[.bool true, .int .i64 0, .int .i64 0, .slice none 0 0] 87)) := (by repeat (first | (with_reducible exact Below.refl _ _) | (with_reducible assumption) | (with_reducible refine bset ?_ ?_ _) | (with_reducible refine balloc ?_ _) | (with_reducible refine Below.drew ?_) | (with_reducible refine bdrewN ?_ _) | (with_reducible refine bnext ?_ (by with_reducible assumption)) | exact Nat.le_refl _ | (simp; done) | omega | (simp; omega)))
        have hx := HCX.out _ hBq
        have hBq2 : Below w1.heap.size w1 (wr.alloc (.cells #[.bool true, .int .i64 0, .int .i64 0, .slice none 0 0] 87)) := (by repeat (first | (with_reducible exact Below.refl _ _) | (with_reducible assumption) | (with_reducible refine bset ?_ ?_ _) | (with_reducible refine balloc ?_ _) | (with_reducible refine Below.drew ?_) | (with_reducible refine bdrewN ?_ _) | (with_reducible refine bnext ?_ (by with_reducible assumption)) | exact Nat.le_refl _ | (simp; done) | omega | (simp; omega)))
        have HPL := Lib.hid (fun d' => deltaq.pcs_lit (o := o) (n := n) (a := k) d' hlt (by omega))
        have HD0 := Lib.hid (HDr.out wr (Below.refl _ _))
        clear HDr HCX HTL hit
        generalize n.getD k 0 = x at *
        rcases HD0.out with ⟨hN, ⟨xs0, hx1, hx2⟩, hE⟩ | ⟨L, p, hN, hNk1, hp, ⟨xs0, hx1, hx2⟩, hE⟩ | ⟨L, d, hN, hNk1, hdk, ⟨xs, Bd, cB, hq1, hq2, hq3, hq4⟩, hE⟩
        · have HEQ : Hid (([] : List Piece) ++ deltaq.pcs o n (k + 1) (some ([] ++ [x])) = deltaq.pcs o n 0 none) := Lib.hid (by rw [← hE, HPL.out none]; rfl)
          have HL0 : Hid (N = ([] : List Piece).length) := Lib.hid hN
          rw [← HL0.out] at hx1
          have HX1 := Lib.hid hx1
          have HX2 := Lib.hid hx2
          have hz : ((N : Int) == 0) = true := by rw [beq_iff_eq]; omega
          clear hx1 hx2 hE HPL HD0 hN
          go_wp2_with (first
            | (at_builtin; go_loud (refine wp_app _ rfl _ _ _ rfl elemPiece w1.heap.size A' _ c' _ rfl ((HX1.out.next hBq).alloc _) _ 1 1 [.bool false, .int .i64 0, .int .i64 0, .slice none 0 0] rfl rfl (Cells.newAt _ _ _ (by first | rfl | simp)) (by simp [Value.oneCell']) (by omega) (by unfold maxLen; omega) (by have := hBq2.size; simp at this ⊢; omega) ?_; intro A3 c3 w3 ho3 hg3; have hx3 : w3.cell? ⟨bb, oo + k, none⟩ = some (.int .u8 (x.toNat : Int)) := (hg3.cell (b := bb) (oo + k) (by have := hBq.size; simp; omega) (fun q hq e => by have h1 := HX1.out.lt q hq; omega)).trans ((World.cell?_alloc_old _ _ _ (by have := hBq.size; simp; omega)).trans hx); obtain ⟨G, rfl, hG1, hG2⟩ := ho3.some (by simp)))
            | fail)
          have hBT : Below w1.heap.size w1 w3 := Grew.step (balloc hBq2 _) hg3 (fun q hq => (HX1.out.lt q hq).1)
          rw [HL0.out] at ho3
          obtain ⟨xs, Bd, cB, hq1, hq2, hq3, hq4⟩ := DOpen.fresh (HX2.out.keep (fun q hq => Apart.next (balloc hBq _) q hq)) hg3 ho3
          rw [← HL0.out] at hq1
          clear ho3 hg3 HX1 HX2
          have HMO : Hid (∀ m ob, Own ((w3.drewN m).alloc ob) w1.heap.size 87 4 (some ⟨G, 0, none⟩) (N + 1) c3 (xs ++ [.bool false, .int .i64 0, .int .i64 0, .slice Bd ([] : List UInt8).length cB]) ∧ RowsOf Piece.rep ((w3.drewN m).alloc ob) (Apart2 ((w3.drewN m).alloc ob) w1.heap.size (some ⟨G, 0, none⟩) Bd) ([] : List Piece) xs ∧ Own ((w3.drewN m).alloc ob) w1.heap.size 5 1 Bd ([] : List UInt8).length cB (List.map u8v [])) := Lib.hid fun m ob => ⟨hq1.next (balloc (bdrewN (bself _) _) _), hq2.keep (Apart2.next (balloc (bdrewN (bself _) _) _)), hq3.next (balloc (bdrewN (bself _) _) _)⟩
          have HSX : Hid (∀ m ob, G < ((w3.drewN m).alloc ob).heap.size) := Lib.hid fun m ob => ((HMO.out m ob).1.lt G rfl).2
          have HBX : Hid (∀ m ob, w1.heap.size ≤ ((w3.drewN m).alloc ob).heap.size) := Lib.hid fun m ob => Nat.le_of_lt (Nat.lt_of_le_of_lt ((HMO.out m ob).1.lt G rfl).1 ((HMO.out m ob).1.lt G rfl).2)
          have hl := hq2.len
          rw [show Piece.rep.size = 4 from rfl, ← HL0.out] at hl
          have HCD : Hid (∀ m ob, ((w3.drewN m).alloc ob).cell? ⟨G, N * 4 + 3, none⟩ = some (.slice Bd ([] : List UInt8).length cB)) := Lib.hid fun m ob => by
            obtain ⟨g', e, _, _, hc⟩ := (HMO.out m ob).1.cell (j := N * 4 + 3) (u := .slice Bd ([] : List UInt8).length cB) (by rw [List.getElem?_append_right (by omega), show N * 4 + 3 - xs.length = 3 by omega]; rfl)
            cases e
            exact hc
          have HFD : Hid (∀ m ob, ((w3.drewN m).alloc ob).frozen? ⟨G, N * 4 + 3, none⟩ = false) := Lib.hid fun m ob => (HMO.out m ob).1.frozenAt _
          have hcD := HCD.out
          have hc3 : w3.cell? ⟨G, N * 4 + 3, none⟩ = some (.slice Bd ([] : List UInt8).length cB) := (World.cell?_alloc_old (w3.drewN 0) (.cells #[] 0) ⟨G, N * 4 + 3, none⟩ (Nat.ne_of_lt hG2)).symm.trans (HCD.out 0 (.cells #[] 0))
          have HNE : Hid (∀ q, blkOf Bd = some q → q ≠ G) := Lib.hid fun q hq e => hq4 q hq (by rw [e]; rfl)
          have HQ4 := Lib.hid hq4
          clear hq1 hq2 hq3 hq4 hl
          go_region_law
            (first
              | (go_loud (refine step_app _ (by rfl) _ _ _ (by rfl) elemU8 w1.heap.size Bd ([] : List UInt8).length cB _ (by rfl) (HMO.out _ _).2.2 (some ⟨w3.heap.size, 0, none⟩) 1 1 [.int .u8 (x.toNat : Int)] (by rfl) (by rfl) (Cells.newAt _ _ _ (by first | rfl | (simp; done))) (by simp [Value.oneCell']) (by first | omega | (simp; done) | (simp; omega)) (by unfold maxLen; first | omega | (simp; done) | (simp; omega)) (HBX.out _ _) ?_; intro A5 c5 w5 hO5 hg5; have x5 := (hg5.cell (b := G) (N * 4 + 3) (HSX.out _ _) HNE.out).trans (HCD.out _ _); have x6 := (hg5.frozen (b := G) (N * 4 + 3) (HSX.out _ _) HNE.out).trans (HFD.out _ _)))
              | fail)
          all_goals
            have HDD := Lib.hid (DOpen.more (d := []) HL0.out (HMO.out _ _).1 (HMO.out _ _).2.1 HQ4.out hg5 hO5)
            have hB5 : Below w1.heap.size w1 w5 := Grew.step (balloc (bdrewN hBT _) _) hg5 (fun q hq => ((HMO.out 0 (.cells #[] 0)).2.2.lt q hq).1)
            have hB6 : Below w1.heap.size w1 (w5.setCell ⟨G, N * 4 + 3, none⟩ (.slice A5 (([] : List UInt8).length + 1) c5)) := hB5.setCell (p := ⟨G, _, none⟩) hG1 _
            clear hg5 hO5 x5 x6 HMO HSX HBX HCD HFD hcD hc3 hB5
            go_wp2
            go_roundw
            case rel => exact ⟨k + 1, N + 1, c3, some ⟨G, 0, none⟩, by go_num, rfl, by omega, Lib.hid (.inr (.inr ⟨([] : List Piece), [] ++ [x], by rw [← HL0.out], by omega, by simp <;> omega, HDD.out, HEQ.out⟩)), hB6⟩
            case measure => simp [intOf]; omega
        · have HEQ : Hid ((L ++ [p]) ++ deltaq.pcs o n (k + 1) (some ([] ++ [x])) = deltaq.pcs o n 0 none) := Lib.hid (by rw [← hE, HPL.out none]; rfl)
          have HL0 : Hid (N = (L ++ [p]).length) := Lib.hid (by simp; exact hN)
          rw [← HL0.out] at hx1
          obtain ⟨cs, hcs, hat⟩ := hx2.at (i := L.length) (a := p) (by simp)
          obtain ⟨Ap, cp, rfl, _⟩ := Piece.rep_iff.1 hcs
          obtain ⟨g, rfl, hga, hgb, hcg⟩ := hx1.cell (hat 0 _ rfl)
          rw [hp, show Piece.rep.size = 4 from rfl, Nat.add_zero] at hcg
          have hcg2 := (hBq.cell (p := ⟨g, L.length * 4, none⟩) hgb).trans hcg
          have hz : ((N : Int) == 0) = false := by rw [beq_eq_false_iff_ne]; omega
          have hqi : (N : Int) - 1 = (L.length : Int) := by omega
          have hqn : (L.length : Int) < (N : Int) := by omega
          have HX1 := Lib.hid hx1
          have HX2 := Lib.hid hx2
          clear hx1 hx2 hcs hat hcg hE HPL HD0 hN
          go_wp2_with (first
            | (at_builtin; go_loud (refine wp_app _ rfl _ _ _ rfl elemPiece w1.heap.size (some ⟨g, 0, none⟩) _ c' _ rfl ((HX1.out.next hBq).alloc _) _ 1 1 [.bool false, .int .i64 0, .int .i64 0, .slice none 0 0] rfl rfl (Cells.newAt _ _ _ (by first | rfl | simp)) (by simp [Value.oneCell']) (by omega) (by unfold maxLen; omega) (by have := hBq2.size; simp at this ⊢; omega) ?_; intro A3 c3 w3 ho3 hg3; have hx3 : w3.cell? ⟨bb, oo + k, none⟩ = some (.int .u8 (x.toNat : Int)) := (hg3.cell (b := bb) (oo + k) (by have := hBq.size; simp; omega) (fun q hq e => by have h1 := HX1.out.lt q hq; omega)).trans ((World.cell?_alloc_old _ _ _ (by have := hBq.size; simp; omega)).trans hx); obtain ⟨G, rfl, hG1, hG2⟩ := ho3.some (by simp)))
            | fail)
          have hBT : Below w1.heap.size w1 w3 := Grew.step (balloc hBq2 _) hg3 (fun q hq => (HX1.out.lt q hq).1)
          rw [HL0.out] at ho3
          obtain ⟨xs, Bd, cB, hq1, hq2, hq3, hq4⟩ := DOpen.fresh (HX2.out.keep (fun q hq => Apart.next (balloc hBq _) q hq)) hg3 ho3
          rw [← HL0.out] at hq1
          clear ho3 hg3 HX1 HX2
          have HMO : Hid (∀ m ob, Own ((w3.drewN m).alloc ob) w1.heap.size 87 4 (some ⟨G, 0, none⟩) (N + 1) c3 (xs ++ [.bool false, .int .i64 0, .int .i64 0, .slice Bd ([] : List UInt8).length cB]) ∧ RowsOf Piece.rep ((w3.drewN m).alloc ob) (Apart2 ((w3.drewN m).alloc ob) w1.heap.size (some ⟨G, 0, none⟩) Bd) (L ++ [p]) xs ∧ Own ((w3.drewN m).alloc ob) w1.heap.size 5 1 Bd ([] : List UInt8).length cB (List.map u8v [])) := Lib.hid fun m ob => ⟨hq1.next (balloc (bdrewN (bself _) _) _), hq2.keep (Apart2.next (balloc (bdrewN (bself _) _) _)), hq3.next (balloc (bdrewN (bself _) _) _)⟩
          have HSX : Hid (∀ m ob, G < ((w3.drewN m).alloc ob).heap.size) := Lib.hid fun m ob => ((HMO.out m ob).1.lt G rfl).2
          have HBX : Hid (∀ m ob, w1.heap.size ≤ ((w3.drewN m).alloc ob).heap.size) := Lib.hid fun m ob => Nat.le_of_lt (Nat.lt_of_le_of_lt ((HMO.out m ob).1.lt G rfl).1 ((HMO.out m ob).1.lt G rfl).2)
          have hl := hq2.len
          rw [show Piece.rep.size = 4 from rfl, ← HL0.out] at hl
          have HCD : Hid (∀ m ob, ((w3.drewN m).alloc ob).cell? ⟨G, N * 4 + 3, none⟩ = some (.slice Bd ([] : List UInt8).length cB)) := Lib.hid fun m ob => by
            obtain ⟨g', e, _, _, hc⟩ := (HMO.out m ob).1.cell (j := N * 4 + 3) (u := .slice Bd ([] : List UInt8).length cB) (by rw [List.getElem?_append_right (by omega), show N * 4 + 3 - xs.length = 3 by omega]; rfl)
            cases e
            exact hc
          have HFD : Hid (∀ m ob, ((w3.drewN m).alloc ob).frozen? ⟨G, N * 4 + 3, none⟩ = false) := Lib.hid fun m ob => (HMO.out m ob).1.frozenAt _
          have hcD := HCD.out
          have hc3 : w3.cell? ⟨G, N * 4 + 3, none⟩ = some (.slice Bd ([] : List UInt8).length cB) := (World.cell?_alloc_old (w3.drewN 0) (.cells #[] 0) ⟨G, N * 4 + 3, none⟩ (Nat.ne_of_lt hG2)).symm.trans (HCD.out 0 (.cells #[] 0))
          have HNE : Hid (∀ q, blkOf Bd = some q → q ≠ G) := Lib.hid fun q hq e => hq4 q hq (by rw [e]; rfl)
          have HQ4 := Lib.hid hq4
          clear hq1 hq2 hq3 hq4 hl
          go_region_law
            (first
              | (go_loud (refine step_app _ (by rfl) _ _ _ (by rfl) elemU8 w1.heap.size Bd ([] : List UInt8).length cB _ (by rfl) (HMO.out _ _).2.2 (some ⟨w3.heap.size, 0, none⟩) 1 1 [.int .u8 (x.toNat : Int)] (by rfl) (by rfl) (Cells.newAt _ _ _ (by first | rfl | (simp; done))) (by simp [Value.oneCell']) (by first | omega | (simp; done) | (simp; omega)) (by unfold maxLen; first | omega | (simp; done) | (simp; omega)) (HBX.out _ _) ?_; intro A5 c5 w5 hO5 hg5; have x5 := (hg5.cell (b := G) (N * 4 + 3) (HSX.out _ _) HNE.out).trans (HCD.out _ _); have x6 := (hg5.frozen (b := G) (N * 4 + 3) (HSX.out _ _) HNE.out).trans (HFD.out _ _)))
              | fail)
          all_goals
            have HDD := Lib.hid (DOpen.more (d := []) HL0.out (HMO.out _ _).1 (HMO.out _ _).2.1 HQ4.out hg5 hO5)
            have hB5 : Below w1.heap.size w1 w5 := Grew.step (balloc (bdrewN hBT _) _) hg5 (fun q hq => ((HMO.out 0 (.cells #[] 0)).2.2.lt q hq).1)
            have hB6 : Below w1.heap.size w1 (w5.setCell ⟨G, N * 4 + 3, none⟩ (.slice A5 (([] : List UInt8).length + 1) c5)) := hB5.setCell (p := ⟨G, _, none⟩) hG1 _
            clear hg5 hO5 x5 x6 HMO HSX HBX HCD HFD hcD hc3 hB5
            go_wp2
            go_roundw
            case rel => exact ⟨k + 1, N + 1, c3, some ⟨G, 0, none⟩, by go_num, rfl, by omega, Lib.hid (.inr (.inr ⟨(L ++ [p]), [] ++ [x], by rw [← HL0.out], by omega, by simp <;> omega, HDD.out, HEQ.out⟩)), hB6⟩
            case measure => simp [intOf]; omega
        · obtain ⟨G, rfl, hG1, hG0⟩ := hq1.some (by simp)
          have HEQ : Hid (L ++ deltaq.pcs o n (k + 1) (some (d ++ [x])) = deltaq.pcs o n 0 none) := Lib.hid (by rw [← hE, HPL.out (some d)]; rfl)
          obtain ⟨M, hM⟩ : ∃ M, M = L.length := ⟨_, rfl⟩
          rw [← hM] at hN hq1
          have HL0 := Lib.hid hM
          subst hN
          have hz : ((M : Int) + 1 == 0) = false := by rw [beq_eq_false_iff_ne]; omega
          have hl0 := hq2.len
          rw [show Piece.rep.size = 4 from rfl, ← HL0.out] at hl0
          have hcf : ((wr.alloc (.cells #[.bool true, .int .i64 0, .int .i64 0, .slice none 0 0] 87))).cell? ⟨G, M * 4, none⟩ = some (.bool false) := (hBq.cell (p := ⟨G, M * 4, none⟩) hG0).trans (by
            obtain ⟨g', e, _, _, hc⟩ := hq1.cell (j := M * 4) (u := .bool false) (by rw [List.getElem?_append_right (by omega), show M * 4 - xs.length = 0 by omega]; rfl)
            cases e
            exact hc)
          have hBT := hBq2
          have hG2 : G < ((wr.alloc (.cells #[.bool true, .int .i64 0, .int .i64 0, .slice none 0 0] 87))).heap.size := Nat.lt_of_lt_of_le hG0 hBq.size
          have hq1 := hq1.next hBq
          have hq2 := hq2.keep (Apart2.next hBq)
          have hq3 := hq3.next hBq
          clear hE HPL HD0 hM hl0
          go_wp2_with fail
          have HMO : Hid (∀ m ob, Own (((wr.alloc (.cells #[.bool true, .int .i64 0, .int .i64 0, .slice none 0 0] 87)).drewN m).alloc ob) w1.heap.size 87 4 (some ⟨G, 0, none⟩) (M + 1) c' (xs ++ [.bool false, .int .i64 0, .int .i64 0, .slice Bd (d : List UInt8).length cB]) ∧ RowsOf Piece.rep (((wr.alloc (.cells #[.bool true, .int .i64 0, .int .i64 0, .slice none 0 0] 87)).drewN m).alloc ob) (Apart2 (((wr.alloc (.cells #[.bool true, .int .i64 0, .int .i64 0, .slice none 0 0] 87)).drewN m).alloc ob) w1.heap.size (some ⟨G, 0, none⟩) Bd) L xs ∧ Own (((wr.alloc (.cells #[.bool true, .int .i64 0, .int .i64 0, .slice none 0 0] 87)).drewN m).alloc ob) w1.heap.size 5 1 Bd (d : List UInt8).length cB (List.map u8v d)) := Lib.hid fun m ob => ⟨hq1.next (balloc (bdrewN (bself _) _) _), hq2.keep (Apart2.next (balloc (bdrewN (bself _) _) _)), hq3.next (balloc (bdrewN (bself _) _) _)⟩
          have HSX : Hid (∀ m ob, G < (((wr.alloc (.cells #[.bool true, .int .i64 0, .int .i64 0, .slice none 0 0] 87)).drewN m).alloc ob).heap.size) := Lib.hid fun m ob => ((HMO.out m ob).1.lt G rfl).2
          have HBX : Hid (∀ m ob, w1.heap.size ≤ (((wr.alloc (.cells #[.bool true, .int .i64 0, .int .i64 0, .slice none 0 0] 87)).drewN m).alloc ob).heap.size) := Lib.hid fun m ob => Nat.le_of_lt (Nat.lt_of_le_of_lt ((HMO.out m ob).1.lt G rfl).1 ((HMO.out m ob).1.lt G rfl).2)
          have hl := hq2.len
          rw [show Piece.rep.size = 4 from rfl, ← HL0.out] at hl
          have HCD : Hid (∀ m ob, (((wr.alloc (.cells #[.bool true, .int .i64 0, .int .i64 0, .slice none 0 0] 87)).drewN m).alloc ob).cell? ⟨G, M * 4 + 3, none⟩ = some (.slice Bd (d : List UInt8).length cB)) := Lib.hid fun m ob => by
            obtain ⟨g', e, _, _, hc⟩ := (HMO.out m ob).1.cell (j := M * 4 + 3) (u := .slice Bd (d : List UInt8).length cB) (by rw [List.getElem?_append_right (by omega), show M * 4 + 3 - xs.length = 3 by omega]; rfl)
            cases e
            exact hc
          have HFD : Hid (∀ m ob, (((wr.alloc (.cells #[.bool true, .int .i64 0, .int .i64 0, .slice none 0 0] 87)).drewN m).alloc ob).frozen? ⟨G, M * 4 + 3, none⟩ = false) := Lib.hid fun m ob => (HMO.out m ob).1.frozenAt _
          have hcD := HCD.out
          have hc3 : (wr.alloc (.cells #[.bool true, .int .i64 0, .int .i64 0, .slice none 0 0] 87)).cell? ⟨G, M * 4 + 3, none⟩ = some (.slice Bd (d : List UInt8).length cB) := (World.cell?_alloc_old ((wr.alloc (.cells #[.bool true, .int .i64 0, .int .i64 0, .slice none 0 0] 87)).drewN 0) (.cells #[] 0) ⟨G, M * 4 + 3, none⟩ (Nat.ne_of_lt hG2)).symm.trans (HCD.out 0 (.cells #[] 0))
          have HNE : Hid (∀ q, blkOf Bd = some q → q ≠ G) := Lib.hid fun q hq e => hq4 q hq (by rw [e]; rfl)
          have HQ4 := Lib.hid hq4
          clear hq1 hq2 hq3 hq4 hl
          go_region_law
            (first
              | (go_loud (refine step_app _ (by rfl) _ _ _ (by rfl) elemU8 w1.heap.size Bd (d : List UInt8).length cB _ (by rfl) (HMO.out _ _).2.2 (some ⟨wr.heap.size + 1, 0, none⟩) 1 1 [.int .u8 (x.toNat : Int)] (by rfl) (by rfl) (Cells.newAt _ _ _ (by first | rfl | (simp; done))) (by simp [Value.oneCell']) (by first | omega | (simp; done) | (simp; omega)) (by unfold maxLen; first | omega | (simp; done) | (simp; omega)) (HBX.out _ _) ?_; intro A5 c5 w5 hO5 hg5; have x5 := (hg5.cell (b := G) (M * 4 + 3) (HSX.out _ _) HNE.out).trans (HCD.out _ _); have x6 := (hg5.frozen (b := G) (M * 4 + 3) (HSX.out _ _) HNE.out).trans (HFD.out _ _)))
              | fail)
          all_goals
            have HDD := Lib.hid (DOpen.more (d := d) HL0.out (HMO.out _ _).1 (HMO.out _ _).2.1 HQ4.out hg5 hO5)
            have hB5 : Below w1.heap.size w1 w5 := Grew.step (balloc (bdrewN hBT _) _) hg5 (fun q hq => ((HMO.out 0 (.cells #[] 0)).2.2.lt q hq).1)
            have hB6 : Below w1.heap.size w1 (w5.setCell ⟨G, M * 4 + 3, none⟩ (.slice A5 ((d : List UInt8).length + 1) c5)) := hB5.setCell (p := ⟨G, _, none⟩) hG1 _
            clear hg5 hO5 x5 x6 HMO HSX HBX HCD HFD hcD hc3 hB5
            go_wp2
            go_roundw
            case rel => exact ⟨k + 1, M + 1, c', some ⟨G, 0, none⟩, by go_num, rfl, by omega, Lib.hid (.inr (.inr ⟨L, d ++ [x], by rw [← HL0.out], by omega, by simp <;> omega, HDD.out, HEQ.out⟩)), hB6⟩
            case measure => simp [intOf]; omega
    · obtain rfl : k = n.length := by omega
      obtain ⟨L, rfl, hL, hE⟩ := HD.out.fin
      have HE := Lib.hid hE
      have HL := Lib.hid hL
      clear hE hL
      go_wp2
      go_ret2
      exact ⟨A', c', by rw [HE.out]; rfl, by rw [HE.out]; exact HL.out.rep hb1.size, hBw⟩
end Go.Proofs.Ytedbidblnjajdaa
