/- TopSealed: the segment that keep.Seg makes. No condition. -/
import Derived.Test.YtedbidblnjajdaaSealed
namespace Go.Proofs.Ytedbidblnjajdaa
open Go.RowKit

set_option maxRecDepth 100000 in
set_option maxHeartbeats 2000000 in
theorem keep_Seg (a b c : Int) (ha : IntOk a) (hb : IntOk b) (hc : IntOk c) (d : List UInt8) (A : Option Addr) (cd : Nat) (w : World) (hl : SlRep Rep.u8 w (· < w.heap.size) d A cd) (hn : d.length ≤ 140737488351232) :
    Calls Try.prog 36 #[.int .i64 a, .int .i64 b, .int .i64 c, .int .i64 8, .slice none 0 0, .slice A d.length cd] w fun e w' => ∃ A1 c1, e = .returned ((sg.mk (a % 65536) (b % 65536) (c % 65536) (d.take 64)).val none 0 A1 c1) ∧ SlRep Rep.u8 w' (fun k => w.heap.size ≤ k ∧ k < w'.heap.size) (d.take 64) A1 c1 ∧ Below w.heap.size w w' := by
  have HO := Lib.hid (fun W (hb : Below w.heap.size w W) => keep_Octets d A cd W (hl.next hb) hn)
  have KA := Lib.hid (keep_Picked a 65536 ha (by omega))
  have KB := Lib.hid (keep_Picked b 65536 hb (by omega))
  have KC := Lib.hid (keep_Picked c 65536 hc (by omega))
  have KF : Hid (∀ W, Calls Try.prog 38 #[.int .i64 8, .int .i64 16] W fun e w' => e = .returned (.int .i64 8) ∧ W = w') := Lib.hid (keep_Picked 8 16 (by unfold IntOk; omega) (by omega))
  have b1 : bits .and .i64 8 1 = 0 := by decide
  have b2 : bits .and .i64 8 2 = 0 := by decide
  have b3 : bits .and .i64 8 4 = 0 := by decide
  have b4 : bits .and .i64 8 8 = 8 := by decide
  clear ha hb hc hl
  unfold Segment.val sg.mk
  dsimp only
  generalize a % 65536 = a' at *
  generalize b % 65536 = b' at *
  generalize c % 65536 = c' at *
  generalize hm : (d.take 64).length = m at *
  have HM := Lib.hid hm
  clear hm
  go_enter Try.func36, Try.ntmps36
  go_wp2_with (first
    | (go_at_call 38; (with_reducible refine (KF.out _).mono ?_); rintro e w1 ⟨rfl, rfl⟩)
    | (go_at_call 38; (with_reducible refine (KA.out _).mono ?_); rintro e w1 ⟨rfl, rfl⟩)
    | (go_at_call 38; (with_reducible refine (KB.out _).mono ?_); rintro e w1 ⟨rfl, rfl⟩)
    | (go_at_call 38; (with_reducible refine (KC.out _).mono ?_); rintro e w1 ⟨rfl, rfl⟩)
    | (go_at_call 66; refine (HO.out _ (by repeat (first | (with_reducible exact Below.refl _ _) | (with_reducible assumption) | (with_reducible refine bset ?_ ?_ _) | (with_reducible refine balloc ?_ _) | (with_reducible refine Below.drew ?_) | (with_reducible refine bdrewN ?_ _) | (with_reducible refine bnext ?_ (by with_reducible assumption)) | exact Nat.le_refl _ | (simp; done) | omega | (simp; omega)))).mono ?_; rintro e w3 ⟨A3, c3, rfl, ho3, hb3⟩; have HO3 := Lib.hid ho3; clear ho3; have B3 : Below w.heap.size w w3 := (by repeat (first | (with_reducible exact Below.refl _ _) | (with_reducible assumption) | (with_reducible refine bset ?_ ?_ _) | (with_reducible refine balloc ?_ _) | (with_reducible refine Below.drew ?_) | (with_reducible refine bdrewN ?_ _) | (with_reducible refine bnext ?_ (by with_reducible assumption)) | exact Nat.le_refl _ | (simp; done) | omega | (simp; omega))); have ha3 : ∀ b o, b < w.heap.size → w3.cell? ⟨b, o, none⟩ = w.cell? ⟨b, o, none⟩ := fun b o h => B3.cell (p := ⟨b, o, none⟩) h; have hk3 : ∀ k, k < w.heap.size → k < w3.heap.size := fun _ h => Nat.lt_of_lt_of_le h B3.size; have hz3 := hb3.size; (try simp at hz3); have hl3_w0 : w.heap.size < w3.heap.size := Nat.lt_of_lt_of_le (by first | (simp; done) | (simp; omega) | omega) hb3.size; have hc3_w0 := fun o => hb3.cell (p := ⟨w.heap.size, o, none⟩) (by first | (simp; done) | (simp; omega) | omega); have hf3_w0 := fun o => hb3.frozen (p := ⟨w.heap.size, o, none⟩) (by first | (simp; done) | (simp; omega) | omega); (try simp [go_sem, *] at hc3_w0); (try simp [go_sem, *] at hf3_w0); clear hb3)
    | fail)
  clear KA KB KC KF HO b1 b2 b3 b4
  go_loop [15] (fun i => i = .int .i64 0) (fun _ => 0)
  case atStart => rfl
  case round =>
    obtain rfl := hrel
    go_wp2_with fail
    (try simp only [Exit.inBlock, Exit.then])
    have h9 := HO3.out.u8.2
    have HS9 := Lib.hid h9
    clear h9 HO3
    refine bodyPost_ret (v := .agg #[.int .i64 a', .int .i64 b', .int .i64 c', .bool false, .bool false, .bool false, .bool true, .slice none 0 0, .slice A3 m c3]) (by simp [results, Try.results36, go_sem, *]) rfl ?_
    refine ⟨A3, c3, rfl, ?_, (by repeat (first | (with_reducible exact Below.refl _ _) | (with_reducible assumption) | (with_reducible refine bset ?_ ?_ _) | (with_reducible refine balloc ?_ _) | (with_reducible refine Below.drew ?_) | (with_reducible refine bdrewN ?_ _) | (with_reducible refine bnext ?_ (by with_reducible assumption)) | exact Nat.le_refl _ | (simp; done) | omega | (simp; omega)))⟩
    exact HS9.out.keep fun j hj => ⟨⟨by simp only [World.size_alloc] at hj; omega, by simp [World.setCell]; omega⟩, by
      refine ((balloc (bself _) _).block j (by simpa [World.setCell] using hj.2)).trans ?_
      simp only [World.size_alloc] at hj
      rw [Below.heap_setCell _ _ _ j (by show j ≠ w.heap.size; omega), Below.heap_setCell _ _ _ j (by show j ≠ w.heap.size; omega), Below.heap_setCell _ _ _ j (by show j ≠ w.heap.size; omega), Below.heap_setCell _ _ _ j (by show j ≠ w.heap.size; omega), Below.heap_setCell _ _ _ j (by show j ≠ w.heap.size; omega), Below.heap_setCell _ _ _ j (by show j ≠ w.heap.size; omega), Below.heap_setCell _ _ _ j (by show j ≠ w.heap.size; omega), Below.heap_setCell _ _ _ j (by show j ≠ w.heap.size; omega), Below.heap_setCell _ _ _ j (by show j ≠ w.heap.size; omega)]⟩
end Go.Proofs.Ytedbidblnjajdaa
