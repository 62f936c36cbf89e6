/- Package glob: the reference's items in memory; takes. No condition. -/
import Derived.Test.YtldoihbblgnpjaaGlob6
import Derived.Test.YtldoihbblgnpjaaRowOf
namespace Go.Proofs.Ytldoihbblgnpjaa
open Go.RowKit

def gl.kind : gl.Item → UInt8
  | .run => 42
  | .any => 63
  | .eq _ => 61
  | .set _ _ => 91
def gl.lone : gl.Item → UInt8
  | .eq b => b
  | _ => 0
def gl.rs : gl.Item → List (UInt8 × UInt8)
  | .set rs _ => rs
  | _ => []
def gl.neg : gl.Item → Bool
  | .set _ no => no
  | _ => false
def gl.prep : Rep (UInt8 × UInt8) := Rep.pair Rep.u8 Rep.u8
theorem gl.prep_iff {w : World} {S : Nat → Prop} {x : UInt8 × UInt8} {cs : List Value} : gl.prep.rep w S x cs ↔ cs = [.int .u8 x.1.toNat, .int .u8 x.2.toNat] := by
  constructor
  · rintro ⟨_, _, rfl, rfl, rfl⟩; rfl
  · rintro rfl; exact ⟨_, _, rfl, rfl, rfl⟩
def gl.pcells (x : UInt8 × UInt8) : List Value := [.int .u8 x.1.toNat, .int .u8 x.2.toNat]
theorem gl.pair_at {w : World} {S : Nat → Prop} {l : List (UInt8 × UInt8)} {A : Option Addr} {c k : Nat} (h : SlRep gl.prep w S l A c) (hk : k < l.length) :
    ∃ b o, A = some ⟨b, o, none⟩ ∧ S b ∧ w.cell? ⟨b, o + k * 2, none⟩ = some (.int .u8 ((l.getD k (0, 0)).1.toNat : Int)) ∧ w.cell? ⟨b, o + k * 2 + 1, none⟩ = some (.int .u8 ((l.getD k (0, 0)).2.toNat : Int)) := by
  rcases h.2.2 with rfl | ⟨b, o, rfl, hb, hr⟩
  · simp at hk
  · obtain ⟨cs, hcs, hc⟩ := hr k (l.getD k (0, 0)) (by rw [List.getD_eq_getElem?_getD, List.getElem?_eq_getElem hk]; rfl)
    obtain rfl := gl.prep_iff.1 hcs
    exact ⟨b, o, rfl, hb, hc 0 _ rfl, hc 1 _ rfl⟩
def gl.tup (x : gl.Item) : UInt8 × UInt8 × List (UInt8 × UInt8) × Bool := (gl.kind x, gl.lone x, gl.rs x, gl.neg x)
def gl.rrep : Rep gl.Item := Rep.via gl.tup (Rep.pair Rep.u8 (Rep.pair Rep.u8 (Rep.pair (Rep.slice gl.prep) Rep.bool)))
theorem gl.rrep_iff {w : World} {S : Nat → Prop} {x : gl.Item} {cs : List Value} : gl.rrep.rep w S x cs ↔ ∃ A c, cs = [.int .u8 (gl.kind x).toNat, .int .u8 (gl.lone x).toNat, .slice A (gl.rs x).length c, .bool (gl.neg x)] ∧ SlRep gl.prep w S (gl.rs x) A c := by
  constructor
  · rintro ⟨_, _, rfl, rfl, ⟨_, _, rfl, rfl, ⟨_, _, rfl, ⟨A0, c0, rfl, h0⟩, rfl⟩⟩⟩
    exact ⟨A0, c0, rfl, h0⟩
  · rintro ⟨A0, c0, rfl, h0⟩
    exact ⟨_, _, rfl, rfl, ⟨_, _, rfl, rfl, ⟨_, _, rfl, ⟨A0, c0, rfl, h0⟩, rfl⟩⟩⟩
theorem gl.inRs_take {rs : List (UInt8 × UInt8)} {k : Nat} (hk : k < rs.length) (b : UInt8) : gl.inRs (rs.take (k + 1)) b = (gl.inRs (rs.take k) b || (decide ((rs.getD k (0, 0)).1 ≤ b) && decide (b ≤ (rs.getD k (0, 0)).2))) := by
  rw [List.take_add_one, List.getElem?_eq_getElem hk, List.getD_eq_getElem?_getD, List.getElem?_eq_getElem hk]
  simp only [gl.inRs, List.any_append, Option.toList_some, List.any_cons, List.any_nil, Bool.or_false, Option.getD_some]
theorem gl.takes_set {it : gl.Item} (h : gl.kind it = 42 ∨ gl.kind it = 91) (b : UInt8) : (gl.inRs (gl.rs it) b != gl.neg it) = it.takes b := by
  cases it with
  | run => rfl
  | any => rcases h with h | h <;> cases h
  | eq c => rcases h with h | h <;> cases h
  | set rs no => rfl

set_option maxRecDepth 100000 in
set_option maxHeartbeats 2000000 in
theorem ref_takes_set (it : gl.Item) (A : Option Addr) (c : Nat) (b : UInt8) (w : World) (hit : gl.kind it = 42 ∨ gl.kind it = 91) (hs : SlRep gl.prep w (· < w.heap.size) (gl.rs it) A c) :
    Calls Try.prog 27 #[.agg #[.int .u8 (gl.kind it).toNat, .int .u8 (gl.lone it).toNat, .slice A (gl.rs it).length c, .bool (gl.neg it)], .int .u8 b.toNat] w fun e w' => e = .returned (.bool (it.takes b)) ∧ Below w.heap.size w w' := by
  have HS := Lib.hid hs
  have HT := Lib.hid (gl.takes_set hit b)
  have hm := hs.2.1
  have hm2 := hs.1
  unfold maxLen at hm
  have h1 : (((gl.kind it).toNat : Int) == 63) = false ∧ (((gl.kind it).toNat : Int) == 61) = false := by
    rcases hit with h | h <;> rw [h] <;> exact ⟨rfl, rfl⟩
  obtain ⟨h1, h2⟩ := h1
  clear hs hit
  generalize (gl.kind it).toNat = kd at *
  generalize (gl.lone it).toNat = on at *
  generalize gl.neg it = no at *
  generalize gl.rs it = rs at *
  go_enter Try.func27, Try.ntmps27
  go_wp2_with fail
  obtain ⟨W0, hW0⟩ : ∃ W0, W0 = w.alloc (.cells #[.int .u8 (kd : Int), .int .u8 (on : Int), .slice A rs.length c, .bool no] 54) := ⟨_, rfl⟩
  rw [← hW0]
  have hb0 : Below w.heap.size w W0 := by rw [hW0]; exact (by repeat (first | (with_reducible exact Below.refl _ _) | (with_reducible assumption) | (with_reducible refine bset ?_ ?_ _) | (with_reducible refine balloc ?_ _) | (with_reducible refine Below.drew ?_) | (with_reducible refine bdrewN ?_ _) | (with_reducible refine bnext ?_ (by with_reducible assumption)) | exact Nat.le_refl _ | (simp; done) | omega | (simp; omega)))
  have hz0 : W0.heap.size = w.heap.size + 1 := by rw [hW0]; simp
  have hc3 : W0.cell? ⟨w.heap.size, 3, none⟩ = some (.bool no) := by rw [hW0]; simp [go_sem]
  have HB0 := Lib.hid hb0
  have HC3 := Lib.hid hc3
  clear hW0 hb0 hc3
  go_loopw [5, 7, 21] (fun s5 _ s21 wr => ∃ k : Nat, s5 = .bool (gl.inRs (rs.take k) b) ∧ s21 = .int .i64 k ∧ k ≤ rs.length ∧ Hid (Below W0.heap.size W0 wr)) (fun _ _ s21 _ => rs.length - (intOf s21).toNat)
  case atStart => exact ⟨0, rfl, rfl, by omega, Lib.hid (Below.refl _ _)⟩
  case round =>
    obtain ⟨k, rfl, rfl, hk, HW⟩ := hrel
    rename World => wr
    have hBw : Below w.heap.size w wr := bnext HB0.out HW.out
    have HBW := Lib.hid hBw
    by_cases hlt : k < rs.length
    · obtain ⟨b1, o, rfl, hb1, hc0, hc1⟩ := gl.pair_at (HS.out.next hBw) hlt
      have hlt' : (k : Int) < (rs.length : Int) := by omega
      have HIN := Lib.hid (gl.inRs_take hlt b)
      generalize rs.getD k (0, 0) = r at *
      obtain ⟨lo, hi⟩ := r
      dsimp only at hc0 hc1 HIN
      obtain ⟨t1, ht1⟩ : ∃ t1, t1 = decide (lo ≤ b) := ⟨_, rfl⟩
      obtain ⟨t2, ht2⟩ : ∃ t2, t2 = decide (b ≤ hi) := ⟨_, rfl⟩
      rw [← ht1, ← ht2] at HIN
      have e1 : decide (lo.toNat ≤ b.toNat) = t1 := by rw [ht1]; exact decide_eq_decide.2 UInt8.le_iff_toNat_le.symm
      have e2 : decide (b.toNat ≤ hi.toNat) = t2 := by rw [ht2]; exact decide_eq_decide.2 UInt8.le_iff_toNat_le.symm
      clear ht1 ht2 hBw
      obtain ⟨iN, hiN⟩ : ∃ iN, iN = gl.inRs (rs.take k) b := ⟨_, rfl⟩
      rw [← hiN] at HIN ⊢
      clear hiN
      cases iN <;> cases t1 <;> cases t2
      all_goals
        go_wp2
        go_roundw
        case rel => exact ⟨k + 1, by rw [HIN.out]; rfl, by go_num, by omega, Lib.hid (HW.out.alloc (by have := HW.out.size; omega) _)⟩
        case measure => simp [intOf]; omega
    · obtain rfl : k = rs.length := by omega
      have hc3 := (HW.out.cell (p := ⟨w.heap.size, 3, none⟩) (by simp only; omega)).trans HC3.out
      rw [List.take_length]
      obtain ⟨iN, hiN⟩ : ∃ iN, iN = gl.inRs rs b := ⟨_, rfl⟩
      rw [← hiN] at HT ⊢
      clear hiN
      go_wp2
      go_ret
      exact ⟨by rw [← HT.out]; rfl, hBw⟩
set_option maxHeartbeats 400000 in
theorem ref_takes_any2 (on : UInt8) (no : Bool) (A : Option Addr) (n c : Nat) (b : UInt8) (w : World) :
    Calls Try.prog 27 #[.agg #[.int .u8 63, .int .u8 on.toNat, .slice A n c, .bool no], .int .u8 b.toNat] w fun e w' => e = .returned (.bool true) ∧ Below w.heap.size w w' := by
  go_enter Try.func27, Try.ntmps27
  go_wp2
  go_ret
  exact ⟨rfl, (by repeat (first | (with_reducible exact Below.refl _ _) | (with_reducible assumption) | (with_reducible refine bset ?_ ?_ _) | (with_reducible refine balloc ?_ _) | (with_reducible refine Below.drew ?_) | (with_reducible refine bdrewN ?_ _) | (with_reducible refine bnext ?_ (by with_reducible assumption)) | exact Nat.le_refl _ | (simp; done) | omega | (simp; omega)))⟩
set_option maxHeartbeats 400000 in
theorem ref_takes_eq (c b : UInt8) (A : Option Addr) (n cc : Nat) (no : Bool) (w : World) :
    Calls Try.prog 27 #[.agg #[.int .u8 61, .int .u8 c.toNat, .slice A n cc, .bool no], .int .u8 b.toNat] w fun e w' => e = .returned (.bool (b == c)) ∧ Below w.heap.size w w' := by
  obtain ⟨t, ht⟩ : ∃ t, t = (b == c) := ⟨_, rfl⟩
  have e1 : ((b.toNat : Int) == (c.toNat : Int)) = t := by
    rw [ht, Bool.eq_iff_iff, beq_iff_eq, beq_iff_eq]
    exact ⟨fun h => UInt8.toNat_inj.1 (by omega), fun h => by rw [h]⟩
  have e2 : (b.toNat == c.toNat) = t := by
    rw [ht, Bool.eq_iff_iff, beq_iff_eq, beq_iff_eq]
    exact UInt8.toNat_inj
  rw [← ht]
  clear ht
  go_enter Try.func27, Try.ntmps27
  go_wp2
  go_ret
  exact ⟨rfl, (by repeat (first | (with_reducible exact Below.refl _ _) | (with_reducible assumption) | (with_reducible refine bset ?_ ?_ _) | (with_reducible refine balloc ?_ _) | (with_reducible refine Below.drew ?_) | (with_reducible refine bdrewN ?_ _) | (with_reducible refine bnext ?_ (by with_reducible assumption)) | exact Nat.le_refl _ | (simp; done) | omega | (simp; omega)))⟩
theorem ref_takes (it : gl.Item) (A : Option Addr) (c : Nat) (b : UInt8) (w : World) (hs : SlRep gl.prep w (· < w.heap.size) (gl.rs it) A c) :
    Calls Try.prog 27 #[.agg #[.int .u8 (gl.kind it).toNat, .int .u8 (gl.lone it).toNat, .slice A (gl.rs it).length c, .bool (gl.neg it)], .int .u8 b.toNat] w fun e w' => e = .returned (.bool (it.takes b)) ∧ Below w.heap.size w w' := by
  cases it with
  | run => exact ref_takes_set .run A c b w (.inl rfl) hs
  | any => exact ref_takes_any2 0 false A 0 c b w
  | eq d => exact ref_takes_eq d b A 0 c false w
  | set rs no => exact ref_takes_set (.set rs no) A c b w (.inr rfl) hs
end Go.Proofs.Ytldoihbblgnpjaa
