/- The walk of the law TopPress. No condition. -/
import Derived.Test.YtkbmpppendelcaaPressA
import Derived.Test.YtkbmpppendelcaaHeapN
import Derived.Test.YtkbmpppendelcaaHuffE1
import Derived.Test.YtkbmpppendelcaaHuffD3
import Derived.Test.YtkbmpppendelcaaLz6
import Derived.Test.YtkbmpppendelcaaLz
import Derived.Deep.DeepCutAuto
namespace Go.Proofs.Ytkbmpppendelcaa
open Go.RowKit
set_option linter.unusedSimpArgs false

theorem pr.elemI : ElemT Try.prog 29 3 1 8 := ElemT.of Try.underlying29 (z := .int .i64 0) (by kernel_rfl) rfl (by decide)
theorem pr.int_ {w : World} {B n c : Nat} {e : TypeId} {A : Option Addr} {xs : List Int} (h : Own w B e 1 A n c (xs.map (Value.int .i64))) : n = xs.length ∧ SlRep Rep.int w (fun k => B ≤ k ∧ k < w.heap.size) xs A c := by
  have h1 : ho.iv xs = xs.flatMap (fun x => [Value.int .i64 x]) := by unfold ho.iv; rw [List.map_eq_flatMap]
  exact Own.flat (R := Rep.int) (fun x => [Value.int .i64 x]) rfl (fun _ _ => rfl) (by decide) (by rw [← h1]; exact h)
theorem pr.front {α : Type} {R : Rep α} {w : World} {B : Nat} {l : List α} {A : Option Addr} {c : Nat} (h : SlRep R w (fun k => B ≤ k ∧ k < w.heap.size) l A c) : SlRep R w (· < w.heap.size) l A c := h.keep fun _ hk => ⟨hk.2, rfl⟩
theorem pr.iv_set (l : List Int) (i : Nat) (x : Int) : (l.map (Value.int .i64)).set i (.int .i64 x) = (l.set i x).map (Value.int .i64) := by rw [List.map_set]
theorem pr.int_at {w : World} {B n c : Nat} {e : TypeId} {g : Nat} {l : List Int} (h : Own w B e 1 (some ⟨g, 0, none⟩) n c (l.map (Value.int .i64))) {j : Nat} (hj : j < l.length) : w.cell? ⟨g, j, none⟩ = some (.int .i64 (l.getD j 0)) := by
  obtain ⟨g', e', _, _, hc⟩ := Own.cell h (j := j) (u := .int .i64 (l.getD j 0)) (by rw [List.getElem?_map, List.getElem?_eq_getElem hj, List.getD_eq_getElem?_getD, List.getElem?_eq_getElem hj]; rfl)
  simp only [Option.some.injEq, Addr.mk.injEq, and_true] at e'
  subst e'
  exact hc

theorem lzq.sy_at {ts : List Token} {j : Nat} {t : Token} (hj : ts[j]? = some t) (h0 : t.len = 0) : (lzq.sy ts)[(lzq.sy (ts.take j)).length]? = some (t.byte.toNat : Int) := by
  have hlt := (List.getElem?_eq_some_iff.1 hj).1
  have e : ts = ts.take j ++ t :: ts.drop (j + 1) := by
    have h := List.drop_eq_getElem_cons hlt
    rw [List.getElem?_eq_getElem hlt] at hj
    cases hj
    rw [← h, List.take_append_drop]
  have e2 : lzq.sy ts = lzq.sy (ts.take j) ++ ((t.byte.toNat : Int) :: lzq.sy (ts.drop (j + 1))) := by
    conv => lhs; rw [e]
    unfold lzq.sy
    rw [List.filter_append, List.map_append, List.filter_cons_of_pos (by simpa using h0)]
    rfl
  rw [e2, List.getElem?_append_right (Nat.le_refl _), Nat.sub_self]
  rfl
theorem pr.set_self {α : Type} {xs : List α} {j : Nat} {v : α} (h : xs[j]? = some v) : xs.set j v = xs := by
  apply List.ext_getElem?
  intro i
  rw [List.getElem?_set]
  split
  · next e =>
    subst e
    rw [h, if_pos (List.getElem?_eq_some_iff.1 h).1]
  · rfl
theorem pr.tok_cell {ts : List Token} {k : Nat} {t : Token} (h : ts[k]? = some t) : (ts.flatMap Token.cells)[k * 3]? = some (.int .u8 (t.byte.toNat : Int)) ∧ (ts.flatMap Token.cells)[k * 3 + 2]? = some (.int .i64 t.len) :=
  ⟨flatMap_at Token.cells 3 (fun _ => rfl) ts k t h 0 (by omega), flatMap_at Token.cells 3 (fun _ => rfl) ts k t h 2 (by omega)⟩
theorem pr.len {S : List Int} (hS : hl.Sy S) (hn : S.length ≤ 300) (A : Option Addr) (c : Nat) (w : World) (h : SlRep Rep.int w (· < w.heap.size) (hl.cnts S) A c) :
    Calls Try.prog 8 #[.slice A 64 c] w fun e w' => ∃ g out, e = .returned (.tuple #[.slice (some ⟨g, 0, none⟩) 64 64, .int .i64 0]) ∧ hl.Good (hl.cnts S) out (hl.best (hl.cnts S)) ∧ Own w' w.heap.size 3 1 (some ⟨g, 0, none⟩) 64 64 (out.map (Value.int .i64)) ∧ Below w.heap.size w w' := by
  have h1 := huff_Lengths (hl.cnts S) A c w h (by rw [hl.cnts_len]; omega)
  rw [hl.cnts_len] at h1
  refine h1.mono ?_
  rintro e w' ⟨hb, h2⟩
  rw [if_neg (by rw [hl.cnts_fault hS (by omega)]; decide), hl.cnts_len] at h2
  obtain ⟨g, out, h3, h4, h5⟩ := h2
  exact ⟨g, out, h3, h4, h5, hb⟩
theorem pr.coded {l S : List Int} : ((hf.pack (hf.allBits l S)).map bytev) = ((hf.bytesOf (hf.allBits l S)).map u8v) := by
  unfold hf.bytesOf
  rw [List.map_map]
  apply List.map_congr_left
  intro x hx
  show Value.int .u8 (x : Int) = Value.int .u8 ((UInt8.ofNat x).toNat : Int)
  rw [hf.ofNat_toNat (hf.pack_le (hf.allBits_bits l S) x hx)]
theorem pr.enc {S out : List Int} (hS : hl.Sy S) (hn : S.length ≤ 300) (hg : hl.Good (hl.cnts S) out (hl.best (hl.cnts S))) (A A2 : Option Addr) (c c2 : Nat) (w : World) (h : SlRep Rep.int w (· < w.heap.size) out A c) (hs : SlRep Rep.int w (· < w.heap.size) S A2 c2) :
    Calls Try.prog 9 #[.slice A 64 c, .slice A2 S.length c2] w fun e w' => ∃ A' c', e = .returned (.tuple #[.slice A' (hf.bytesOf (hf.allBits out S)).length c', .int .i64 0]) ∧ Own w' w.heap.size 5 1 A' (hf.bytesOf (hf.allBits out S)).length c' ((hf.bytesOf (hf.allBits out S)).map u8v) ∧ Below w.heap.size w w' := by
  obtain ⟨g1, g2, g3⟩ := hl.good_bits hS hg
  have h1 := huff_Encode out S A A2 c c2 w h hs (by omega) (by omega)
  rw [g3] at h1
  refine h1.mono ?_
  rintro e w' ⟨hb, h2, _⟩
  obtain ⟨A', c', h3, h4⟩ := h2 (hf.may_iff.2 hg.fits) g1
  have e1 : (hf.bytesOf (hf.allBits out S)).length = (hf.pack (hf.allBits out S)).length := by unfold hf.bytesOf; rw [List.length_map]
  rw [e1, ← pr.coded]
  exact ⟨A', c', h3, h4, hb⟩
theorem pr.dec {S out : List Int} (hS : hl.Sy S) (hn : S.length ≤ 300) (hg : hl.Good (hl.cnts S) out (hl.best (hl.cnts S))) (A A2 : Option Addr) (c c2 : Nat) (w : World) (h : SlRep Rep.int w (· < w.heap.size) out A c) (hs : SlRep Rep.u8 w (· < w.heap.size) (hf.bytesOf (hf.allBits out S)) A2 c2) :
    Calls Try.prog 10 #[.slice A 64 c, .slice A2 (hf.bytesOf (hf.allBits out S)).length c2, .int .i64 (S.length : Int)] w fun e w' => ∃ A' c', e = .returned (.tuple #[.slice A' S.length c', .int .i64 0]) ∧ Own w' w.heap.size 3 1 A' S.length c' (S.map (Value.int .i64)) ∧ Below w.heap.size w w' := by
  obtain ⟨g1, g2, g3⟩ := hl.good_bits hS hg
  have hbl := hf.bytesOf_len (hf.allBits out S)
  have h1 := huff_Decode out A c _ A2 c2 (S.length : Int) w h hs (by omega) (by omega)
  rw [g3] at h1
  refine h1.mono ?_
  rintro e w' ⟨hb, _, _, _, h2⟩
  obtain ⟨d1, d2⟩ := hf.dec_all hg.fits g1
  obtain ⟨A', n, c', h3, h4⟩ := h2 (hf.may_iff.2 hg.fits) S.length rfl (by omega) d2
  rw [d1] at h4
  have h5 : n = S.length := (pr.int_ h4).1
  subst h5
  exact ⟨A', c', h3, h4, hb⟩
theorem pr.exp {X : List UInt8} {ts : List Token} (h : playTo lzp.step [] ts = .ok X) (hn : ts.length ≤ 4096) (A : Option Addr) (c : Nat) (w : World) (hs : SlRep Token.rep w (· < w.heap.size) ts A c) :
    Calls Try.prog 11 #[.slice A ts.length c] w fun e w' => ∃ A' c', e = .returned (.tuple #[.slice A' X.length c', .int .i64 0]) ∧ Own w' w.heap.size 5 1 A' X.length c' (X.map u8v) ∧ Below w.heap.size w w' := by
  refine (lz_Expand_any ts A c w hs hn).mono ?_
  rw [h]
  exact fun e w' h => h

set_option maxRecDepth 100000 in
set_option maxHeartbeats 8000000 in
theorem lawTopPress_walk {w : World} (b : List UInt8) (A : Option Addr) (c : Nat) (h0 : SlRep Rep.u8 w (· < w.heap.size) b A c) (hok : AllOk 1 AnyOk b) (kinds : Int) (hk : IntOk kinds) :
    Calls Try.prog 3 #[.slice A b.length c, .int .i64 kinds] w fun e w' => e = .returned (.bool true) ∧ Below w.heap.size w w' := by
  have hn : b.length ≤ 140737488351232 := by have := hok.2; omega
  have hkm := Int.emod_nonneg kinds (show (60 : Int) ≠ 0 by omega)
  have hkl := Int.emod_lt_of_pos kinds (show (0 : Int) < 60 by omega)
  obtain ⟨q, hq⟩ : ∃ q : Nat, 1 + kinds % 60 = q := ⟨(1 + kinds % 60).toNat, by omega⟩
  have hq1 : 1 ≤ q ∧ q ≤ 60 := by omega
  have HPK := Lib.hid (keep_Picked kinds 60 hk (by omega))
  have HFW := Lib.hid (keep_Few b A c q hq1 w h0 hn)
  have hadd : IntKind.i64.wrap (1 + kinds % 60) = (q : Int) := by rw [hq]; exact IntWalk.i64_in _ (by omega)
  obtain ⟨X, hX⟩ : ∃ X, (b.take 300).map (pr.few q) = X := ⟨_, rfl⟩
  have hXe : (b.take 300).length = X.length := by rw [← hX, List.length_map]
  have hXl : X.length ≤ 300 := by rw [← hXe, List.length_take]; omega
  have hXb : ∀ x ∈ X, x.toNat < 64 := fun x hx => by
    rw [← hX] at hx
    obtain ⟨y, _, rfl⟩ := List.mem_map.1 hx
    rw [pr.few_nat hq1]
    have := Nat.mod_lt y.toNat (y := q) (by omega)
    omega
  rw [hX, hXe] at HFW
  have HPL : Hid (playTo lzp.step [] (lzq.toks X 0) = .ok X) := Lib.hid (lzq.play_toks (by omega) 0 (by omega))
  have HSY := Lib.hid (lzq.sy_Sy hXb)
  have hTl := lzq.toks_len X 0
  have HLP := Lib.hid (fun (A2 : Option Addr) (c2 : Nat) (w2 : World) (h : SlRep Rep.u8 w2 (· < w2.heap.size) X A2 c2) => lz_Parse_ok X A2 c2 w2 h (by omega))
  have HTB : Hid (∀ t ∈ lzq.toks X 0, t.len = 0 → t.byte.toNat < 64) := Lib.hid (fun t ht h => hXb _ (lzq.toks_byte _ 0 (Nat.le_refl _) t ht h))
  obtain ⟨ts, hts⟩ : ∃ ts, lzq.toks X 0 = ts := ⟨_, rfl⟩
  rw [hts] at HPL HSY hTl HLP HTB
  obtain ⟨nX, hnX⟩ : ∃ nX, X.length = nX := ⟨_, rfl⟩
  have HNX := Lib.hid hnX
  rw [hnX] at HFW hXl hTl HLP
  have hT3 : ts.length ≤ 300 := by omega
  have hmk := make_row (P := Try.prog) (i := Try.t3) (z := .int .i64 0) Try.underlying29 (by kernel_rfl) (by kernel_rfl) rfl rfl 64 64 rfl (by show 8 * _ ≤ _; omega) (by omega)
  clear hk hkm hkl hq hq1 hX hXe hXb hts hTl hn hok h0 hnX
  go_enter Try.func3, Try.ntmps3
  go_upto_region 3 with (first
    | (go_at_call 6; ((with_reducible refine (HPK.out _).mono ?_); rintro e _ ⟨rfl, rfl⟩))
    | (go_at_call 5; ((with_reducible refine HFW.out.mono ?_); rintro e w1 ⟨A1, c1, rfl, hO1, hB1⟩; have HO1 := Lib.hid hO1; have HB1 := Lib.hid hB1; clear hO1 hB1))
    | (at_builtin; refine wp_app _ rfl _ _ _ rfl elemU8 w.heap.size none 0 0 [] rfl (Own.nil _ _ _ _) A1 nX c1 (X.map u8v) rfl (by rw [List.length_map, HNX.out, Nat.mul_one]) HO1.out.cells (oneCell_u8 _) (by omega) (by unfold maxLen; omega) HB1.out.size ?_; intro A2 c2 w2 hO2 hg2; simp only [Nat.zero_add, List.nil_append] at hO2 ⊢; have HO2 := Lib.hid hO2; have HB2 : Hid (Below w1.heap.size w1 w2) := Lib.hid (Grew.step (bself w1) hg2 (fun k hk => by cases hk)); clear hO2 hg2)
    | (go_at_call 7; ((with_reducible refine (HLP.out A2 c2 w2 (pr.front HO2.out.u8.2)).mono ?_); rintro e w3 ⟨A3, c3, rfl, hO3, hB3⟩; have HO3 := Lib.hid hO3; have HB3 := Lib.hid hB3; clear hO3 hB3))
    | fail)
  have HTS3 : Hid (SlRep Token.rep w3 (· < w3.heap.size) ts A3 c3) := Lib.hid (pr.front (Own.flat Token.cells rfl (fun S a => Token.enc _ S a) (by decide) HO3.out).2)
  go_upto_region 7 with (fail)
  generalize hw40 : World.alloc w3 _ = w4
  have hw4 : w4 = w3.alloc (.cells (List.replicate 64 (Value.int .i64 0)).toArray 3) := hw40.symm.trans rfl
  clear hw40
  obtain ⟨g9, hg9⟩ : ∃ g9, g9 = w3.heap.size := ⟨_, rfl⟩
  rw [← hg9]
  have hs4 : w4.heap.size = g9 + 1 := by rw [hw4, hg9, World.size_alloc]
  have HCN4 : Hid (Own w4 g9 3 1 (some ⟨g9, 0, none⟩) 64 64 ((hl.cnts []).map (Value.int .i64))) := Lib.hid (by
    have h := Own.lit w3 w3.heap.size 3 1 64 (List.replicate 64 (Value.int .i64 0)) (Nat.le_refl _) (by simp) (by decide)
    rw [← hw4, ← hg9] at h
    exact h)
  have HB4 : Hid (Below g9 w3 w4) := Lib.hid (by rw [hw4, hg9]; exact balloc (bself w3) _)
  rw [← hg9] at HTS3
  have HG9 := Lib.hid hg9
  have HS4 := Lib.hid hs4
  clear hw4 hg9 hmk hs4
  go_wp2
  go_loopw [8, 10] (fun s8 s10 wr => ∃ (k m c8 : Nat) (A8 : Option Addr), k ≤ ts.length ∧ m ≤ k ∧ s8 = .slice A8 m c8 ∧ s10 = .int .i64 (k : Int) ∧ Hid (m = (lzq.sy (ts.take k)).length ∧ Own wr (g9 + 1) 3 1 A8 m c8 ((lzq.sy (ts.take k)).map (Value.int .i64)) ∧ Own wr g9 3 1 (some ⟨g9, 0, none⟩) 64 64 ((hl.cnts (lzq.sy (ts.take k))).map (Value.int .i64)) ∧ Below g9 w3 wr ∧ g9 + 1 ≤ wr.heap.size)) (fun _ s10 _ => ts.length - (intOf s10).toNat)
  case atStart => exact ⟨0, 0, 0, none, by omega, by omega, rfl, rfl, Lib.hid ⟨rfl, Own.nil _ _ _ _, HCN4.out, HB4.out, by rw [HS4.out]; exact Nat.le_refl _⟩⟩
  case round =>
    obtain ⟨k, m, c8, A8, hk, hmk, rfl, rfl, HJ⟩ := hrel
    rename World => wr
    by_cases hlt : k < ts.length
    · have hlt' : (k : Int) < (ts.length : Int) := by omega
      obtain ⟨bb, oo, rfl, hbb, hc1, hc2, hc3⟩ := Token.cells_at ⟨0, 0, 0⟩ (HTS3.out.keep (S' := (· < g9)) fun q hq => ⟨hq, HJ.out.2.2.2.1.block q hq⟩) hlt
      have HST := Lib.hid (lzq.sy_take hlt)
      have htm : ts.getD k ⟨0, 0, 0⟩ ∈ ts := by rw [List.getD_eq_getElem?_getD, List.getElem?_eq_getElem hlt]; exact List.getElem_mem hlt
      have hby := HTB.out _ htm
      clear htm
      generalize ts.getD k ⟨0, 0, 0⟩ = t at *
      obtain ⟨x, di, ln⟩ := t
      dsimp only at hc1 hc2 hc3 hby HST
      by_cases hl0 : ln = 0
      · subst hl0
        have hx64 := hby rfl
        obtain ⟨xv, hxv⟩ : ∃ xv : Nat, x.toNat = xv := ⟨_, rfl⟩
        rw [hxv] at hc1 hx64 HST
        have HST2 : Hid (lzq.sy (ts.take (k + 1)) = lzq.sy (ts.take k) ++ [(xv : Int)]) := Lib.hid (by rw [HST.out, if_pos rfl])
        have hxi : ¬ (64 : Int) ≤ (xv : Int) := by omega
        have hxi2 : (xv : Int) < 64 := by omega
        have hcv : IntKind.i64.wrap (xv : Int) = (xv : Int) := IntWalk.i64_in _ (by omega)
        clear hby HST hxv
        go_upto_region 14 with (first
          | (at_builtin; refine wp_app _ rfl _ _ _ rfl pr.elemI (g9 + 1) A8 _ c8 _ rfl (HJ.out.2.1.alloc _) _ 1 1 [.int .i64 (xv : Int)] rfl rfl (Cells.newAt _ _ _ (by simp)) (by simp [Value.oneCell']) (by omega) (by unfold maxLen; omega) (by have := HJ.out.2.2.2.2; simp; omega) ?_; intro A5 c5 w5 hO5 hg5; have HO5 := Lib.hid hO5; have HB5 : Hid (Below (g9 + 1) wr w5 ∧ g9 + 1 ≤ w5.heap.size) := Lib.hid (by
              have h1 := HJ.out.2.2.2.2
              have h2 : Below (g9 + 1) wr w5 := ((Below.refl _ wr).alloc h1 _).trans (hg5.below (by rw [World.size_alloc]; omega) (fun q hq => (HJ.out.2.1.lt q hq).1))
              exact ⟨h2, Nat.le_trans h1 h2.size⟩); clear hO5 hg5)
          | fail)
        have HCN5 : Hid (Own w5 g9 3 1 (some ⟨g9, 0, none⟩) 64 64 ((hl.cnts (lzq.sy (ts.take k))).map (Value.int .i64))) := Lib.hid (HJ.out.2.2.1.below HB5.out.1 (fun q hq => by have e : g9 = q := (by simpa [blkOf] using hq); omega))
        have hd1 := (HB5.out.1.cell (p := ⟨bb, oo + k * 3, none⟩) (by show bb < g9 + 1; omega)).trans hc1
        have hd2 := pr.int_at HCN5.out (j := xv) (by rw [hl.cnts_len]; omega)
        have hfz := fun j => HCN5.out.frozenAt j
        have hbd := hl.cnts_bd (lzq.sy (ts.take k)) (fun s hs => HSY.out s (by
          unfold lzq.sy at hs ⊢
          obtain ⟨t, ht, rfl⟩ := List.mem_map.1 hs
          exact List.mem_map.2 ⟨t, List.mem_filter.2 ⟨List.mem_of_mem_take (List.mem_filter.1 ht).1, (List.mem_filter.1 ht).2⟩, rfl⟩)) xv
        rw [← HJ.out.1] at hbd
        have HCS := Lib.hid (hl.cnts_snoc (lzq.sy (ts.take k)) (xv : Int))
        rw [Int.toNat_natCast] at HCS
        generalize (hl.cnts (lzq.sy (ts.take k))).getD xv 0 = cv at *
        have hw1 : IntKind.i64.wrap (cv + 1) = cv + 1 := IntWalk.i64_in _ (by omega)
        clear hbd
        go_wp2
        go_roundw
        case rel => exact ⟨k + 1, m + 1, c5, A5, by omega, by omega, rfl, by go_num, Lib.hid ⟨by rw [HST2.out, List.length_append, ← HJ.out.1]; rfl, by
            rw [HST2.out, List.map_append]
            exact HO5.out.setCell (fun e => absurd (HO5.out.lt _ e).1 (show ¬ g9 + 1 ≤ g9 by omega)) _, by
            rw [HST2.out, HCS.out, ← pr.iv_set]
            exact HCN5.out.setAt _, (HJ.out.2.2.2.1.trans (HB5.out.1.mono (by omega))).setCell (p := ⟨g9, xv, none⟩) (Nat.le_refl _) _, by rw [World.size_setCell]; exact HB5.out.2⟩⟩
        case measure => simp [intOf]; omega
      · have hl0' : (ln == 0) = false := by rw [beq_eq_false_iff_ne]; exact hl0
        have HST2 : Hid (lzq.sy (ts.take (k + 1)) = lzq.sy (ts.take k)) := Lib.hid (by rw [HST.out, if_neg hl0, List.append_nil])
        clear hby HST
        go_wp2
        go_roundw
        case rel => exact ⟨k + 1, m, c8, A8, by omega, by omega, rfl, by go_num, Lib.hid (by rw [HST2.out]; exact HJ.out)⟩
        case measure => simp [intOf]; omega
    · obtain rfl : k = ts.length := by omega
      rw [List.take_length] at HJ
      obtain ⟨S, hS⟩ : ∃ S, lzq.sy ts = S := ⟨_, rfl⟩
      have HSE := Lib.hid hS
      have hsl := lzq.sy_len ts
      rw [hS] at HJ HSY hsl
      have hmS : m = S.length := HJ.out.1
      subst hmS
      have HLN := Lib.hid (pr.len HSY.out (by omega) (some ⟨g9, 0, none⟩) 64 wr (pr.front (pr.int_ HJ.out.2.2.1).2))
      have HWR : Hid (Below w1.heap.size w1 wr) := Lib.hid ((HB2.out.trans (HB3.out.mono HB2.out.size)).trans (HJ.out.2.2.2.1.mono (by have := HG9.out; have := HB2.out.size; have := HB3.out.size; omega)))
      have hs300 : S.length ≤ 300 := by omega
      clear hS hsl
      go_upto_region 16 with (first
        | (go_at_call 8; ((with_reducible refine HLN.out.mono ?_); rintro e w6 ⟨g, out, rfl, hg, ho6, hb6⟩; have HG := Lib.hid hg; have HO6 := Lib.hid ho6; have HB6 := Lib.hid hb6; clear hg ho6 hb6))
        | fail)
      have HEN := Lib.hid (pr.enc HSY.out hs300 HG.out (some ⟨g, 0, none⟩) A8 64 c8 w6 (pr.front (pr.int_ HO6.out).2) (pr.front (pr.int_ (HJ.out.2.1.next HB6.out)).2))
      obtain ⟨gb1, gb2, gb3⟩ := hl.good_bits HSY.out HG.out
      have hbl := hf.bytesOf_len (hf.allBits out S)
      have HDC := Lib.hid (fun (A2 : Option Addr) (c2 : Nat) (wx : World) (hb : Below w6.heap.size w6 wx) (h : SlRep Rep.u8 wx (· < wx.heap.size) (hf.bytesOf (hf.allBits out S)) A2 c2) => pr.dec HSY.out hs300 HG.out (some ⟨g, 0, none⟩) A2 64 c2 wx ((pr.front (pr.int_ HO6.out).2).next hb) h)
      generalize hf.bytesOf (hf.allBits out S) = Y at *
      have hM : Y.length ≤ (6 * S.length + 7) / 8 := by rw [hbl]; exact Nat.div_le_div_right (by omega)
      clear gb1 gb2 gb3 hbl
      go_upto_region 18 with (first
        | (go_at_call 9; ((with_reducible refine HEN.out.mono ?_); rintro e w7 ⟨A7, c7, rfl, ho7, hb7⟩; have HO7 := Lib.hid ho7; have HB7 := Lib.hid hb7; clear ho7 hb7))
        | (go_at_call 10; ((with_reducible refine (HDC.out A7 c7 w7 HB7.out (pr.front HO7.out.u8.2)).mono ?_); rintro e w8 ⟨A9, c9, rfl, ho8, hb8⟩; have HO8 := Lib.hid ho8; have HB8 := Lib.hid hb8; clear ho8 hb8))
        | fail)
      have hw1 : IntKind.i64.wrap (6 * (S.length : Int)) = 6 * (S.length : Int) := IntWalk.i64_in _ (by omega)
      have hw2 : IntKind.i64.wrap (6 * (S.length : Int) + 7) = 6 * (S.length : Int) + 7 := IntWalk.i64_in _ (by omega)
      have hw3 : (6 * (S.length : Int) + 7).tdiv 8 = (((6 * S.length + 7) / 8 : Nat) : Int) := by rw [Int.tdiv_eq_ediv_of_nonneg (by omega)]; omega
      generalize hv : (6 * S.length + 7) / 8 = v at *
      have hw4 : IntKind.i64.wrap (v : Int) = (v : Int) := IntWalk.i64_in _ (by omega)
      have hvM : ¬ (v : Int) < (Y.length : Int) := by omega
      have hnn : ((S.length : Int) != (S.length : Int)) = false := by simp
      clear hv
      go_upto_region 21 with (fail)
      have HW8 : Hid (Below wr.heap.size wr w8) := Lib.hid (bnext (bnext HB6.out HB7.out) HB8.out)
      have HTK : Hid (Own w8 w2.heap.size 31 3 A3 ts.length c3 (ts.flatMap Token.cells)) := Lib.hid (Own.next (Own.below HO3.out HJ.out.2.2.2.1 (fun q hq => by have := (HO3.out.lt q hq).2; have := HG9.out; omega)) HW8.out)
      have HSM : Hid (Own w8 (g9 + 1) 3 1 A8 S.length c8 (S.map (Value.int .i64))) := Lib.hid (HJ.out.2.1.next HW8.out)
      have HB38 : Hid (Below g9 w3 w8) := Lib.hid (HJ.out.2.2.2.1.trans (HW8.out.mono (by have := HJ.out.2.2.2.2; omega)))
      have HX8 : Hid (w2.heap.size ≤ w8.heap.size ∧ g9 + 1 ≤ w8.heap.size ∧ g9 + 1 ≤ w7.heap.size ∧ w7.heap.size ≤ w8.heap.size) := Lib.hid (by
        have h1 := HB3.out.size
        have h2 := HJ.out.2.2.2.2
        have h3 := HB6.out.size
        have h4 := HB7.out.size
        have h5 := HB8.out.size
        have h6 := HG9.out
        omega)
      clear HTB HLN HEN HDC hw1 hw2 hw3 hw4 hvM hnn hM
      go_wp2
      go_loopw [17, 18] (fun s17 s18 wx => ∃ (j kk : Nat), j ≤ ts.length ∧ kk ≤ j ∧ s17 = .int .i64 (kk : Int) ∧ s18 = .int .i64 (j : Int) ∧ Hid (kk = (lzq.sy (ts.take j)).length ∧ Own wx w2.heap.size 31 3 A3 ts.length c3 (ts.flatMap Token.cells) ∧ Own wx (g9 + 1) 3 1 A8 S.length c8 (S.map (Value.int .i64)) ∧ Own wx w7.heap.size 3 1 A9 S.length c9 (S.map (Value.int .i64)) ∧ Below w2.heap.size w8 wx)) (fun _ s18 _ => ts.length - (intOf s18).toNat)
      case atStart => exact ⟨0, 0, by omega, by omega, rfl, rfl, Lib.hid ⟨rfl, HTK.out, HSM.out, HO8.out, Below.refl _ _⟩⟩
      case round =>
        obtain ⟨j, kk, hj, hkk, rfl, rfl, HI⟩ := hrel
        rename World => wx
        by_cases hlt : j < ts.length
        · have hlt' : (j : Int) < (ts.length : Int) := by omega
          obtain ⟨t, ht⟩ : ∃ t, ts[j]? = some t := ⟨_, List.getElem?_eq_getElem hlt⟩
          obtain ⟨tc1, tc2⟩ := pr.tok_cell ht
          have HST := Lib.hid (lzq.sy_take hlt)
          have hgd : ts.getD j ⟨0, 0, 0⟩ = t := by rw [List.getD_eq_getElem?_getD, ht]; rfl
          rw [hgd] at HST
          have hat := fun h => lzq.sy_at (t := t) ht h
          obtain ⟨gt, rfl, hgb, hgl, hc1⟩ := Own.cell HI.out.2.1 tc1
          have hc3 : wx.cell? ⟨gt, j * 3 + 2, none⟩ = some (.int .i64 t.len) := by
            obtain ⟨g', e', _, _, hc⟩ := Own.cell HI.out.2.1 tc2
            simp only [Option.some.injEq, Addr.mk.injEq, and_true] at e'
            subst e'
            exact hc
          have HTC := Lib.hid tc1
          clear tc1 tc2 hgd ht
          obtain ⟨x, di, ln⟩ := t
          dsimp only at hc1 hc3 hat HST HTC
          by_cases hl0 : ln = 0
          · subst hl0
            have hat1 := hat rfl
            rw [HSE.out, ← HI.out.1] at hat1
            have hkS := (List.getElem?_eq_some_iff.1 hat1).1
            obtain ⟨xv, hxv⟩ : ∃ xv : Nat, x.toNat = xv := ⟨_, rfl⟩
            have hx255 : xv ≤ 255 := by have := UInt8.toNat_lt x; omega
            rw [hxv] at hc1 hat1 HST HTC
            have HST2 : Hid ((lzq.sy (ts.take (j + 1))).length = kk + 1) := Lib.hid (by rw [HST.out, if_pos rfl, List.length_append, ← HI.out.1]; rfl)
            have hmap : (S.map (Value.int .i64))[kk]? = some (.int .i64 (xv : Int)) := by rw [List.getElem?_map, hat1]; rfl
            obtain ⟨g8, rfl, hg8, hg8l, hs8⟩ := Own.cell HI.out.2.2.1 hmap
            obtain ⟨ga, rfl, hga, hgal, hsa⟩ := Own.cell HI.out.2.2.2.1 hmap
            have hkS' : (kk : Int) < (S.length : Int) := by omega
            have hxx : ((xv : Int) != (xv : Int)) = false := by simp
            have hc8 : IntKind.u8.wrap (xv : Int) = (xv : Int) := IntWalk.u8_in _ (by omega)
            have hfz := fun i => HI.out.2.1.frozenAt i
            have hlt3 : gt < g9 := by have := (HO3.out.lt gt rfl).2; have := HG9.out; omega
            have HNE : Hid (gt ≠ g8 ∧ gt ≠ ga) := Lib.hid ⟨by omega, by have := HX8.out; omega⟩
            clear hat hat1 hmap HST hxv
            go_upto_region 25 with (fail)
            go_quiet (fail)
            go_wp2
            go_roundw
            case rel => exact ⟨j + 1, kk + 1, by omega, by omega, by go_num, by go_num, Lib.hid ⟨HST2.out.symm, by
                have h := HI.out.2.1.setAt (j := j * 3) (.int .u8 (xv : Int))
                rw [pr.set_self HTC.out] at h
                exact h, HI.out.2.2.1.setCell (fun e => HNE.out.1 (by simpa [blkOf] using e.symm)) _, HI.out.2.2.2.1.setCell (fun e => HNE.out.2 (by simpa [blkOf] using e.symm)) _, (bdrewN HI.out.2.2.2.2 _).setCell (p := ⟨gt, j * 3, none⟩) hgb _⟩⟩
            case measure => simp [intOf]; omega
          · have hl0' : (ln == 0) = false := by rw [beq_eq_false_iff_ne]; exact hl0
            have HST2 : Hid (lzq.sy (ts.take (j + 1)) = lzq.sy (ts.take j)) := Lib.hid (by rw [HST.out, if_neg hl0, List.append_nil])
            clear hat HST
            go_wp2
            go_roundw
            case rel => exact ⟨j + 1, kk, by omega, by omega, rfl, by go_num, Lib.hid (by rw [HST2.out]; exact HI.out)⟩
            case measure => simp [intOf]; omega
        · obtain rfl : j = ts.length := by omega
          have HEX := Lib.hid (pr.exp HPL.out (by omega) A3 c3 wx (pr.front (Own.flat Token.cells rfl (fun S a => Token.enc _ S a) (by decide) HI.out.2.1).2))
          rw [HNX.out] at HEX
          have HE1 : Hid (∀ wy : World, Calls Try.prog 11 #[.slice (some ⟨wy.heap.size, 0, none⟩) 1 1] (wy.alloc (.cells #[.int .u8 7, .int .i64 0, .int .i64 0] 31)) fun e w' => ∃ A' c', e = .returned (.tuple #[.slice A' 1 c', .int .i64 0]) ∧ Below (wy.heap.size + 1) (wy.alloc (.cells #[.int .u8 7, .int .i64 0, .int .i64 0] 31)) w') := Lib.hid (fun wy => by
            have h := Own.lit wy wy.heap.size 31 3 1 ([(⟨7, 0, 0⟩ : Token)].flatMap Token.cells) (Nat.le_refl _) (by decide) (by decide)
            refine (pr.exp (X := [7]) (ts := [⟨7, 0, 0⟩]) rfl (by decide) (some ⟨wy.heap.size, 0, none⟩) 1 _ (pr.front (Own.flat Token.cells rfl (fun S a => Token.enc _ S a) (by decide) h).2)).mono ?_
            rintro e w' ⟨A', c', h1, _, h3⟩
            refine ⟨A', c', h1, ?_⟩
            rw [World.size_alloc] at h3
            exact h3)
          have HW1x : Hid (Below w1.heap.size w1 wx) := Lib.hid ((bnext HWR.out HW8.out).trans (HI.out.2.2.2.2.mono HB2.out.size))
          have HSB := Lib.hid (fun (wz : World) (A9 : Option Addr) (c9 : Nat) (hb : Below w1.heap.size w1 wz) (h : SlRep Rep.u8 wz (· < wz.heap.size) X A9 c9) => top_sameBytes X A1 A9 c1 c9 _ _ wz ((pr.front HO1.out.u8.2).next hb) h (by have := HNX.out; omega))
          rw [HNX.out] at HSB
          go_wp2_with (first
            | (go_at_call 11; ((with_reducible refine HEX.out.mono ?_); rintro e wy ⟨A10, c10, rfl, ho10, hb10⟩; have HO10 := Lib.hid ho10; have HB10 := Lib.hid hb10; clear ho10 hb10))
            | (go_at_call 11; ((with_reducible refine (HE1.out wy).mono ?_); rintro e wz ⟨A11, c11, rfl, hb11⟩; have HB11 : Hid (Below wy.heap.size wy wz) := Lib.hid ((balloc (bself wy) _).trans (hb11.mono (by omega))); clear hb11))
            | (go_at_call 12; ((with_reducible refine (HSB.out wz A10 c10 (bnext HW1x.out (bnext HB10.out HB11.out)) (pr.front (HO10.out.next HB11.out).u8.2)).mono ?_); rintro e wq ⟨rfl, hb12⟩; have HB12 := Lib.hid hb12; clear hb12))
            | fail)
          go_ret
          exact ⟨rfl, bnext HB1.out (bnext (bnext HW1x.out (bnext HB10.out HB11.out)) HB12.out)⟩
end Go.Proofs.Ytkbmpppendelcaa
