/- Package seg: Decode, the parts: the closure that reads two bytes; the exits. No condition. -/
import Derived.Test.YtedbidblnjajdaaSeg3
import Derived.Test.YtedbidblnjajdaaSegD
import Derived.Test.YtedbidblnjajdaaRngs
import Derived.Laws.BitsAllLaws
import Derived.Laws.BitsLemmas
namespace Go.Proofs.Ytedbidblnjajdaa
open Go.RowKit

/-- what a call answers: a segment, or a fault -/
def segOr : Except Int Segment → Segment
  | .ok s => s
  | .error _ => sg.noSeg
def SegRes (r : Except Int Segment) (w : World) (e : Ending) (w' : World) : Prop :=
  ∃ A0 c0 A1 c1, e = .returned (.tuple #[(segOr r).val A0 c0 A1 c1, .int .i64 (exC r)]) ∧ SlRep Rng.rep w' (fun k => w.heap.size ≤ k ∧ k < w'.heap.size) (segOr r).sacks A0 c0 ∧ SlRep Rep.u8 w' (fun k => w.heap.size ≤ k ∧ k < w'.heap.size) (segOr r).data A1 c1 ∧ Below w.heap.size w w'
theorem SegRes.no {r : Except Int Segment} {c : Int} (h : r = .error c) {w w' : World} (hb : Below w.heap.size w w') : SegRes r w (.returned (.tuple #[.agg #[.int .i64 0, .int .i64 0, .int .i64 0, .bool false, .bool false, .bool false, .bool false, .slice none 0 0, .slice none 0 0], .int .i64 c])) w' := by
  subst h
  exact ⟨none, 0, none, 0, rfl, sl_nil _ _ _, sl_nil _ _ _, hb⟩

theorem bits_or_hi (x y : Int) (hx : 0 ≤ x ∧ x < 256) (hy : 0 ≤ y ∧ y < 256) : bits .or .i64 (x * 256) y = x * 256 + y := by
  obtain ⟨a, rfl⟩ := Int.eq_ofNat_of_zero_le hx.1
  obtain ⟨b, rfl⟩ := Int.eq_ofNat_of_zero_le hy.1
  have ha : (BitVec.ofInt 64 ((a : Int) * 256)).toNat = a * 256 := by
    rw [show ((a : Int) * 256) = ((a * 256 : Nat) : Int) by omega, BitVec.ofInt_natCast, BitVec.toNat_ofNat]; exact Nat.mod_eq_of_lt (by omega)
  have hb : (BitVec.ofInt 64 (b : Int)).toNat = b := by
    rw [BitVec.ofInt_natCast, BitVec.toNat_ofNat]; exact Nat.mod_eq_of_lt (by omega)
  show IntKind.i64.wrap ((BitVec.ofInt 64 ((a : Int) * 256) ||| BitVec.ofInt 64 (b : Int)).toNat : Int) = _
  rw [BitVec.toNat_or, ha, hb, show a * 256 = 2 ^ 8 * a by omega, ← Nat.two_pow_add_eq_or_of_lt (by omega), IntKind.wrap_i64]
  omega

set_option maxHeartbeats 400000 in
theorem seg_word (b : List UInt8) (A : Option Addr) (c B : Nat) (S : Nat → Prop) (w : World) (hB : w.cell? ⟨B, 0, none⟩ = some (.slice A b.length c)) (hl : SlRep Rep.u8 w S b A c) (i : Nat) (j : Int) (hj : j = i) (hi : i + 1 < b.length) (hn : b.length ≤ 140737488351232) :
    Calls Try.prog 64 #[.int .i64 j, .pointer (some ⟨B, 0, none⟩)] w fun e w' => e = .returned (.int .i64 (sg.w16 b i)) ∧ ∃ m, w' = w.drewN m := by
  subst hj
  obtain ⟨bb, oo, rfl, _, hc1⟩ := u8_at hl (show i < b.length by omega)
  obtain ⟨b', o', he, _, hc2⟩ := u8_at hl hi
  simp only [Option.some.injEq, Addr.mk.injEq, and_true] at he
  obtain ⟨rfl, rfl⟩ := he
  have hx := sg.byteAt_bd b i
  have hy := sg.byteAt_bd b (i + 1)
  have HW : Hid (sg.w16 b i = sg.byteAt b i * 256 + sg.byteAt b (i + 1)) := Lib.hid (by unfold sg.w16; omega)
  change _ = some (Value.int .u8 (sg.byteAt b i)) at hc1
  change _ = some (Value.int .u8 (sg.byteAt b (i + 1))) at hc2
  have hi1 : (i : Int) < (b.length : Int) := by omega
  have hi2 : (i : Int) + 1 < (b.length : Int) := by omega
  have hi3 : ¬ ((i : Int) + 1 < 0) := by omega
  have hi4 := IntWalk.i64_in ((i : Int) + 1) (by omega)
  have hii : ((i : Int) + 1).toNat = i + 1 := by omega
  have hb := bits_or_hi _ _ hx hy
  have hw := IntWalk.i64_in (sg.byteAt b i * 256) (by omega)
  have hwx := IntWalk.i64_in (sg.byteAt b i) (by omega)
  have hwy := IntWalk.i64_in (sg.byteAt b (i + 1)) (by omega)
  generalize sg.byteAt b i = x at *
  generalize sg.byteAt b (i + 1) = y at *
  clear hl
  go_enter Try.func64, Try.ntmps64
  go_wp2
  go_quiet (fail)
  go_wp2
  go_ret
  exact ⟨by rw [HW.out]; rfl, _, rfl⟩
set_option maxHeartbeats 400000 in
theorem ref_word (b : List UInt8) (A : Option Addr) (c B : Nat) (S : Nat → Prop) (w : World) (hB : w.cell? ⟨B, 0, none⟩ = some (.slice A b.length c)) (hl : SlRep Rep.u8 w S b A c) (i : Nat) (j : Int) (hj : j = i) (hi : i + 1 < b.length) (hn : b.length ≤ 140737488351232) :
    Calls Try.prog 65 #[.int .i64 j, .pointer (some ⟨B, 0, none⟩)] w fun e w' => e = .returned (.int .i64 (sg.w16 b i)) ∧ ∃ m, w' = w.drewN m := by
  subst hj
  obtain ⟨bb, oo, rfl, _, hc1⟩ := u8_at hl (show i < b.length by omega)
  obtain ⟨b', o', he, _, hc2⟩ := u8_at hl hi
  simp only [Option.some.injEq, Addr.mk.injEq, and_true] at he
  obtain ⟨rfl, rfl⟩ := he
  have hx := sg.byteAt_bd b i
  have hy := sg.byteAt_bd b (i + 1)
  have HW : Hid (sg.w16 b i = 256 * sg.byteAt b i + sg.byteAt b (i + 1)) := Lib.hid (by unfold sg.w16; omega)
  change _ = some (Value.int .u8 (sg.byteAt b i)) at hc1
  change _ = some (Value.int .u8 (sg.byteAt b (i + 1))) at hc2
  have hi1 : (i : Int) < (b.length : Int) := by omega
  have hi2 : (i : Int) + 1 < (b.length : Int) := by omega
  have hi3 : ¬ ((i : Int) + 1 < 0) := by omega
  have hi4 := IntWalk.i64_in ((i : Int) + 1) (by omega)
  have hii : ((i : Int) + 1).toNat = i + 1 := by omega
  have hw := IntWalk.i64_in (256 * sg.byteAt b i) (by omega)
  have hw2 := IntWalk.i64_in (256 * sg.byteAt b i + sg.byteAt b (i + 1)) (by omega)
  have hwx := IntWalk.i64_in (sg.byteAt b i) (by omega)
  have hwy := IntWalk.i64_in (sg.byteAt b (i + 1)) (by omega)
  generalize sg.byteAt b i = x at *
  generalize sg.byteAt b (i + 1) = y at *
  clear hl
  go_enter Try.func65, Try.ntmps65
  go_wp2
  go_quiet (fail)
  go_wp2
  go_ret
  exact ⟨by rw [HW.out]; rfl, _, rfl⟩

/-! ### The segment that is made -/
def segCells (s : Segment) (A0 : Option Addr) (c0 : Nat) (A1 : Option Addr) (c1 : Nat) : List Value :=
  [.int .i64 s.seq, .int .i64 s.ack, .int .i64 s.window, .bool s.syn, .bool s.fin, .bool s.rst, .bool s.acks, .slice A0 s.sacks.length c0, .slice A1 s.data.length c1]
theorem segAt_iff {w : World} {g : Nat} {s : Segment} {A0 : Option Addr} {c0 : Nat} {A1 : Option Addr} {c1 : Nat} : SegAt w g s A0 c0 A1 c1 ↔ g < w.heap.size ∧ ∀ o u, (segCells s A0 c0 A1 c1)[o]? = some u → w.cell? ⟨g, o, none⟩ = some u := by
  constructor
  · rintro ⟨h0, h1, h2, h3, h4, h5, h6, h7, h8, h9⟩
    refine ⟨h0, fun o u hu => ?_⟩
    rcases (show o = 0 ∨ o = 1 ∨ o = 2 ∨ o = 3 ∨ o = 4 ∨ o = 5 ∨ o = 6 ∨ o = 7 ∨ o = 8 ∨ 9 ≤ o by omega) with rfl | rfl | rfl | rfl | rfl | rfl | rfl | rfl | rfl | h
    all_goals first | (cases hu; assumption) | (rw [List.getElem?_eq_none (by simp [segCells]; omega)] at hu; cases hu)
  · rintro ⟨h0, h⟩
    exact ⟨h0, h 0 _ rfl, h 1 _ rfl, h 2 _ rfl, h 3 _ rfl, h 4 _ rfl, h 5 _ rfl, h 6 _ rfl, h 7 _ rfl, h 8 _ rfl⟩
theorem SegAt.put {w : World} {g : Nat} {s s' : Segment} {A0 A0' : Option Addr} {c0 c0' : Nat} {A1 A1' : Option Addr} {c1 c1' : Nat} (h : SegAt w g s A0 c0 A1 c1) (k : Nat) (v : Value) (hk : k < 9) (hs : segCells s' A0' c0' A1' c1' = (segCells s A0 c0 A1 c1).set k v) : SegAt (w.setCell ⟨g, k, none⟩ v) g s' A0' c0' A1' c1' := by
  rw [segAt_iff] at h ⊢
  refine ⟨by simpa [World.setCell] using h.1, fun o u hu => ?_⟩
  rw [hs] at hu
  have hlen : (segCells s A0 c0 A1 c1).length = 9 := rfl
  by_cases ho : k = o
  · subst ho
    rw [List.getElem?_set_self (by omega)] at hu
    cases hu
    obtain ⟨u0, h0⟩ : ∃ u0, (segCells s A0 c0 A1 c1)[k]? = some u0 := ⟨_, List.getElem?_eq_getElem (by omega)⟩
    exact World.cell?_setCell_same' _ _ _ (by rw [h.2 _ _ h0]; rfl)
  · rw [List.getElem?_set_ne ho] at hu
    have := h.2 o u hu
    simp [go_sem, ho, Ne.symm ho, this]
structure DecAt (w wr : World) (G : Nat) (A : Option Addr) (n c : Nat) (s : Segment) (A0 : Option Addr) (c0 : Nat) (A1 : Option Addr) (c1 : Nat) : Prop where
  box : wr.cell? ⟨w.heap.size, 0, none⟩ = some (.slice A n c)
  res : SegAt wr (w.heap.size + 1) sg.noSeg none 0 none 0
  rfz : ∀ o, wr.frozen? ⟨w.heap.size + 1, o, none⟩ = false
  seg : SegAt wr G s A0 c0 A1 c1
  sfz : ∀ o, wr.frozen? ⟨G, o, none⟩ = false
  hG : w.heap.size + 1 < G
  below : Below w.heap.size w wr
theorem DecAt.next {w wr wr' : World} {G : Nat} {A : Option Addr} {n c : Nat} {s : Segment} {A0 : Option Addr} {c0 : Nat} {A1 : Option Addr} {c1 : Nat} (h : DecAt w wr G A n c s A0 c0 A1 c1) {B : Nat} (hb : Below B wr wr') (hB : G < B) : DecAt w wr' G A n c s A0 c0 A1 c1 :=
  have hG := h.hG
  ⟨(hb.cell (p := ⟨w.heap.size, 0, none⟩) (by show w.heap.size < B; omega)).trans h.box, h.res.below hb (by omega), fun o => (hb.frozen (p := ⟨w.heap.size + 1, o, none⟩) (by show w.heap.size + 1 < B; omega)).trans (h.rfz o), h.seg.below hb hB, fun o => (hb.frozen (p := ⟨G, o, none⟩) hB).trans (h.sfz o), hG, h.below.trans (hb.mono (by omega))⟩
theorem DecAt.put {w wr : World} {G : Nat} {A : Option Addr} {n c : Nat} {s s' : Segment} {A0 A0' : Option Addr} {c0 c0' : Nat} {A1 A1' : Option Addr} {c1 c1' : Nat} (h : DecAt w wr G A n c s A0 c0 A1 c1) (k : Nat) (v : Value) (hk : k < 9) (hs : segCells s' A0' c0' A1' c1' = (segCells s A0 c0 A1 c1).set k v) : DecAt w (wr.setCell ⟨G, k, none⟩ v) G A n c s' A0' c0' A1' c1' :=
  have hG := h.hG
  have hb : Below G wr (wr.setCell ⟨G, k, none⟩ v) := (Below.refl _ _).setCell (p := ⟨G, k, none⟩) (Nat.le_refl _) _
  ⟨(hb.cell (p := ⟨w.heap.size, 0, none⟩) (by show w.heap.size < G; omega)).trans h.box, h.res.below hb hG, fun o => (hb.frozen (p := ⟨w.heap.size + 1, o, none⟩) hG).trans (h.rfz o), h.seg.put k v hk hs, fun o => by rw [World.frozen?_setCell]; exact h.sfz o, hG, h.below.trans (hb.mono (by omega))⟩

/-! ### Too short -/
set_option maxRecDepth 100000 in
set_option maxHeartbeats 2000000 in
theorem seg_Decode_short (b : List UInt8) (A : Option Addr) (c : Nat) (w : World) (h : b.length < 10) :
    Calls Try.prog 33 #[.slice A b.length c] w (SegRes (.error 5) w) := by
  have h' : (b.length : Int) < 10 := by omega
  generalize b.length = n at *
  go_enter Try.func33, Try.ntmps33
  go_wp2
  refine bodyPost_ret (v := .tuple #[.agg #[.int .i64 0, .int .i64 0, .int .i64 0, .bool false, .bool false, .bool false, .bool false, .slice none 0 0, .slice none 0 0], .int .i64 5]) (by simp [results, Try.results33, go_sem]) rfl ?_
  exact SegRes.no rfl (by repeat (first | (with_reducible exact Below.refl _ _) | (with_reducible assumption) | (with_reducible refine bset ?_ ?_ _) | (with_reducible refine balloc ?_ _) | (with_reducible refine Below.drew ?_) | (with_reducible refine bdrewN ?_ _) | (with_reducible refine bnext ?_ (by with_reducible assumption)) | exact Nat.le_refl _ | (simp; done) | omega | (simp; omega)))
set_option maxRecDepth 100000 in
set_option maxHeartbeats 2000000 in
theorem ref_Decoded_short (b : List UInt8) (A : Option Addr) (c : Nat) (w : World) (h : b.length < 10) :
    Calls Try.prog 34 #[.slice A b.length c] w (SegRes (.error 5) w) := by
  have h' : (b.length : Int) < 10 := by omega
  generalize b.length = n at *
  go_enter Try.func34, Try.ntmps34
  go_wp2
  refine bodyPost_ret (v := .tuple #[.agg #[.int .i64 0, .int .i64 0, .int .i64 0, .bool false, .bool false, .bool false, .bool false, .slice none 0 0, .slice none 0 0], .int .i64 5]) (by simp [results, Try.results34, go_sem]) rfl ?_
  exact SegRes.no rfl (by repeat (first | (with_reducible exact Below.refl _ _) | (with_reducible assumption) | (with_reducible refine bset ?_ ?_ _) | (with_reducible refine balloc ?_ _) | (with_reducible refine Below.drew ?_) | (with_reducible refine bdrewN ?_ _) | (with_reducible refine bnext ?_ (by with_reducible assumption)) | exact Nat.le_refl _ | (simp; done) | omega | (simp; omega)))
end Go.Proofs.Ytedbidblnjajdaa
