/- Package hole: Gaps and its reference; equal lists of ranges; the walk of the law HoleGaps. No condition. -/
import Derived.Test.YtdjdjjbcmlnecaaHole
import Derived.Test.YtdjdjjbcmlnecaaOwn2
namespace Go.Proofs.Ytdjdjjbcmlnecaa
open Go.RowKit

theorem elemRng : ElemT Try.prog 32 56 2 16 := ElemT.of Try.underlying32 (z := .agg #[.int .i64 0, .int .i64 0]) (by kernel_rfl) rfl (by decide)
theorem Own.rng {w : World} {base : Nat} {e : TypeId} {A : Option Addr} {n c : Nat} {l : List Rng} (h : Own w base e 2 A n c (l.flatMap Rng.cells)) : n = l.length ∧ SlRep Rng.rep w (fun k => base ≤ k ∧ k < w.heap.size) l A c :=
  Own.flat Rng.cells rfl (fun S a => Rng.enc w S a) (by decide) h
theorem SlRep.wide {α : Type} {R : Rep α} {w : World} {S : Nat → Prop} {l : List α} {A : Option Addr} {c base : Nat} (h : SlRep R w (fun k => base ≤ k ∧ k < w.heap.size) l A c) (hS : ∀ k, k < w.heap.size → S k) : SlRep R w S l A c :=
  h.keep fun k hk => ⟨hS k hk.2, rfl⟩

/-- the gaps ahead of the first k ranges -/
def gapsTo (done : Int) (l : List Rng) : Nat → List Rng
  | 0 => []
  | k + 1 => gapsTo done l k ++ [⟨endAt done l k, (l.getD k Rng.z).lo⟩]
theorem gapsTo_length (done : Int) (l : List Rng) (k : Nat) : (gapsTo done l k).length = k := by
  induction k with
  | zero => rfl
  | succ k ih => simp [gapsTo, ih]

set_option maxHeartbeats 400000 in
theorem law_sameRanges (l : List Rng) (A A' : Option Addr) (c c' : Nat) (S S' : Nat → Prop) (w : World) (hl : SlRep Rng.rep w S l A c) (hl' : SlRep Rng.rep w S' l A' c') (hn : l.length ≤ 9223372036854775807) :
    Calls Try.prog 32 #[.slice A l.length c, .slice A' l.length c'] w fun e w' => e = .returned (.bool true) ∧ Below w.heap.size w w' := by
  have HL := Lib.hid hl
  have HL' := Lib.hid hl'
  clear hl hl'
  go_enter Try.func32, Try.ntmps32
  go_wp2
  go_loopw [5] (fun i wr => ∃ k m : Nat, k ≤ l.length ∧ i = .int .i64 k ∧ wr = w.drewN m) (fun i _ => l.length - (intOf i).toNat)
  case atStart => exact ⟨0, 0, by omega, rfl, rfl⟩
  case round =>
    obtain ⟨k, m, hk, rfl, rfl⟩ := hrel
    by_cases hlt : k < l.length
    · obtain ⟨b, o, rfl, _, hc1, hc2⟩ := Rng.cells_at Rng.z HL.out hlt
      obtain ⟨b', o', rfl, _, hd1, hd2⟩ := Rng.cells_at Rng.z HL'.out hlt
      have hlt' : (k : Int) < (l.length : Int) := by omega
      generalize (l.getD k Rng.z).lo = x at *
      generalize (l.getD k Rng.z).hi = y at *
      go_wp2
      go_quiet (fail)
      go_wp2
      go_roundw
      case rel => exact ⟨k + 1, _, by omega, by go_num, rfl⟩
      case measure => simp [intOf]; omega
    · go_wp2
      go_ret
      exact ⟨rfl, (by repeat (first | (with_reducible exact Below.refl _ _) | (with_reducible assumption) | (with_reducible refine bset ?_ ?_ _) | (with_reducible refine balloc ?_ _) | (with_reducible refine Below.drew ?_) | (with_reducible refine bdrewN ?_ _) | (with_reducible refine bnext ?_ (by with_reducible assumption)) | exact Nat.le_refl _ | (simp; done) | omega | (simp; omega)))⟩

theorem hole_May_yes (done : Int) (l : List Rng) (A : Option Addr) (c : Nat) (w : World) (hl : SlRep Rng.rep w (· < w.heap.size) l A c) (hn : l.length ≤ 140737488351232) (h : holeMayB done l = true) :
    Calls Try.prog 19 #[.int .i64 done, .slice A l.length c] w fun e w' => e = .returned (.bool true) ∧ Below w.heap.size w w' := by rw [← h]; exact hole_May done l A c w hl hn
theorem hole_May_no (done : Int) (l : List Rng) (A : Option Addr) (c : Nat) (w : World) (hl : SlRep Rng.rep w (· < w.heap.size) l A c) (hn : l.length ≤ 140737488351232) (h : holeMayB done l = false) :
    Calls Try.prog 19 #[.int .i64 done, .slice A l.length c] w fun e w' => e = .returned (.bool false) ∧ Below w.heap.size w w' := by rw [← h]; exact hole_May done l A c w hl hn
theorem ref_HoleMay_yes (done : Int) (l : List Rng) (A : Option Addr) (c : Nat) (w : World) (hl : SlRep Rng.rep w (· < w.heap.size) l A c) (hn : l.length ≤ 140737488351232) (h : holeMayB done l = true) :
    Calls Try.prog 20 #[.int .i64 done, .slice A l.length c] w fun e w' => e = .returned (.bool true) ∧ Below w.heap.size w w' := by rw [← h]; exact ref_HoleMay done l A c w hl hn
theorem ref_HoleMay_no (done : Int) (l : List Rng) (A : Option Addr) (c : Nat) (w : World) (hl : SlRep Rng.rep w (· < w.heap.size) l A c) (hn : l.length ≤ 140737488351232) (h : holeMayB done l = false) :
    Calls Try.prog 20 #[.int .i64 done, .slice A l.length c] w fun e w' => e = .returned (.bool false) ∧ Below w.heap.size w w' := by rw [← h]; exact ref_HoleMay done l A c w hl hn

set_option maxHeartbeats 400000 in
theorem hole_Gaps_no (done : Int) (l : List Rng) (A : Option Addr) (c : Nat) (w : World) (hl : SlRep Rng.rep w (· < w.heap.size) l A c) (hn : l.length ≤ 140737488351232) (h : holeMayB done l = false) :
    Calls Try.prog 30 #[.int .i64 done, .slice A l.length c] w fun e w' => e = .returned (.tuple #[.slice none 0 0, .int .i64 4]) ∧ Below w.heap.size w w' := by
  have HL := Lib.hid hl
  clear hl
  go_enter Try.func30, Try.ntmps30
  go_wp2_with (go_at_call 19; refine (hole_May_no done l A c _ HL.out hn h).mono ?_; rintro e w1 ⟨rfl, hb1⟩)
  go_ret2
  exact ⟨rfl, (by repeat (first | (with_reducible exact Below.refl _ _) | (with_reducible assumption) | (with_reducible refine bset ?_ ?_ _) | (with_reducible refine balloc ?_ _) | (with_reducible refine Below.drew ?_) | (with_reducible refine bdrewN ?_ _) | (with_reducible refine bnext ?_ (by with_reducible assumption)) | exact Nat.le_refl _ | (simp; done) | omega | (simp; omega)))⟩
set_option maxHeartbeats 400000 in
theorem ref_Gaps_no (done : Int) (l : List Rng) (A : Option Addr) (c : Nat) (w : World) (hl : SlRep Rng.rep w (· < w.heap.size) l A c) (hn : l.length ≤ 140737488351232) (h : holeMayB done l = false) :
    Calls Try.prog 31 #[.int .i64 done, .slice A l.length c] w fun e w' => e = .returned (.tuple #[.slice none 0 0, .int .i64 4]) ∧ Below w.heap.size w w' := by
  have HL := Lib.hid hl
  clear hl
  go_enter Try.func31, Try.ntmps31
  go_wp2_with (go_at_call 20; refine (ref_HoleMay_no done l A c _ HL.out hn h).mono ?_; rintro e w1 ⟨rfl, hb1⟩)
  go_ret2
  exact ⟨rfl, (by repeat (first | (with_reducible exact Below.refl _ _) | (with_reducible assumption) | (with_reducible refine bset ?_ ?_ _) | (with_reducible refine balloc ?_ _) | (with_reducible refine Below.drew ?_) | (with_reducible refine bdrewN ?_ _) | (with_reducible refine bnext ?_ (by with_reducible assumption)) | exact Nat.le_refl _ | (simp; done) | omega | (simp; omega)))⟩

set_option maxHeartbeats 1000000 in
theorem hole_Gaps_ok (done : Int) (l : List Rng) (A : Option Addr) (c : Nat) (w : World) (hl : SlRep Rng.rep w (· < w.heap.size) l A c) (hn : l.length ≤ 16) (h : holeMayB done l = true) :
    Calls Try.prog 30 #[.int .i64 done, .slice A l.length c] w fun e w' => ∃ A' c', e = .returned (.tuple #[.slice A' l.length c', .int .i64 0]) ∧ Own w' w.heap.size 56 2 A' l.length c' ((gapsTo done l l.length).flatMap Rng.cells) ∧ Below w.heap.size w w' := by
  have HL := Lib.hid hl
  clear hl
  go_enter Try.func30, Try.ntmps30
  go_wp2_with (go_at_call 19; refine (hole_May_yes done l A c _ HL.out (by omega) h).mono ?_; rintro e w1 ⟨rfl, hb1⟩)
  go_loopw [0, 6, 8, 15] (fun d out _ i wr => ∃ (k : Nat) (A' : Option Addr) (c' : Nat), k ≤ l.length ∧ i = .int .i64 k ∧ d = .int .i64 (endAt done l k) ∧ out = .slice A' k c' ∧ Hid (Own wr w.heap.size 56 2 A' k c' ((gapsTo done l k).flatMap Rng.cells)) ∧ Below w.heap.size w wr) (fun _ _ _ i _ => l.length - (intOf i).toNat)
  case atStart => exact ⟨0, none, 0, Nat.zero_le _, rfl, rfl, rfl, Lib.hid (Own.nil _ _ _ _), hb1⟩
  case round =>
    obtain ⟨k, A', c', hk, rfl, rfl, rfl, HO, hB⟩ := hrel
    by_cases hlt : k < l.length
    · obtain ⟨b, o, rfl, hb, hc1, hc2⟩ := Rng.cells_at Rng.z (HL.out.below hB) hlt
      rename_i wr _
      have hbw : b < wr.heap.size := Nat.lt_of_lt_of_le hb hB.size
      have hsz := hB.size
      have HS := Lib.hid (endAt_succ done l k)
      have HG : Hid ((gapsTo done l (k + 1)).flatMap Rng.cells = (gapsTo done l k).flatMap Rng.cells ++ [.int .i64 (endAt done l k), .int .i64 (l.getD k Rng.z).lo]) := Lib.hid (by simp [gapsTo, Rng.cells])
      clear HL hb1
      generalize (l.getD k Rng.z).lo = x at *
      generalize (l.getD k Rng.z).hi = y at *
      generalize endAt done l k = e at *
      go_wp2_with (at_builtin; refine wp_app _ rfl _ _ _ rfl elemRng w.heap.size A' _ c' _ rfl ((HO.out.alloc _).alloc _) _ 1 1 [.int .i64 e, .int .i64 x] rfl rfl (Cells.newAt _ _ _ (by simp)) (by simp [Value.oneCell']) (by omega) (by unfold maxLen; omega) (by simp; omega) ?_; intro A2 c2 w2 hO2 hg2; have HO3 := Lib.hid hO2; clear hO2; have hcx := hg2.cell (b := wr.heap.size) 1 (by simp only [World.size_alloc]; omega) (fun k hk => by have := (HO.out.lt k hk).2; omega); simp [go_sem] at hcx)
      go_roundw
      case rel => exact ⟨k + 1, A2, c2, by omega, by go_num, by rw [HS.out], rfl, Lib.hid (by rw [HG.out]; exact HO3.out), Grew.step (balloc (balloc hB _) _) hg2 (fun g hg => (HO.out.lt g hg).1)⟩
      case measure => simp [intOf]; omega
    · obtain rfl : k = l.length := by omega
      go_wp2
      go_ret2
      exact ⟨A', c', rfl, HO.out, hB⟩

set_option maxHeartbeats 1000000 in
theorem ref_Gaps_ok (done : Int) (l : List Rng) (A : Option Addr) (c : Nat) (w : World) (hl : SlRep Rng.rep w (· < w.heap.size) l A c) (hn : l.length ≤ 16) (h : holeMayB done l = true) :
    Calls Try.prog 31 #[.int .i64 done, .slice A l.length c] w fun e w' => ∃ A' c', e = .returned (.tuple #[.slice A' l.length c', .int .i64 0]) ∧ Own w' w.heap.size 56 2 A' l.length c' ((gapsTo done l l.length).flatMap Rng.cells) ∧ Below w.heap.size w w' := by
  have HL := Lib.hid hl
  clear hl
  go_enter Try.func31, Try.ntmps31
  go_wp2_with (go_at_call 20; refine (ref_HoleMay_yes done l A c _ HL.out (by omega) h).mono ?_; rintro e w1 ⟨rfl, hb1⟩)
  go_loopw [6, 7, 8, 15] (fun out _ _ i wr => ∃ (k : Nat) (A' : Option Addr) (c' : Nat), k ≤ l.length ∧ i = .int .i64 k ∧ out = .slice A' k c' ∧ Hid (Own wr w.heap.size 56 2 A' k c' ((gapsTo done l k).flatMap Rng.cells)) ∧ Below w.heap.size w wr) (fun _ _ _ i _ => l.length - (intOf i).toNat)
  case atStart => exact ⟨0, none, 0, Nat.zero_le _, rfl, rfl, Lib.hid (Own.nil _ _ _ _), hb1⟩
  case round =>
    obtain ⟨k, A', c', hk, rfl, rfl, HO, hB⟩ := hrel
    by_cases hlt : k < l.length
    · obtain ⟨b, o, rfl, hb, hc1, hc2⟩ := Rng.cells_at Rng.z (HL.out.below hB) hlt
      rename_i wr _
      have hbw : b < wr.heap.size := Nat.lt_of_lt_of_le hb hB.size
      have hsz := hB.size
      have HG : Hid ((gapsTo done l (k + 1)).flatMap Rng.cells = (gapsTo done l k).flatMap Rng.cells ++ [.int .i64 (endAt done l k), .int .i64 (l.getD k Rng.z).lo]) := Lib.hid (by simp [gapsTo, Rng.cells])
      have hz : k = 0 → endAt done l k = done := fun h => by subst h; rfl
      have hcz : 0 < k → wr.cell? ⟨b, o + (k - 1) * 2 + 1, none⟩ = some (.int .i64 (endAt done l k)) := fun h0 => by
        obtain ⟨b', o', hbo, _, _, hd⟩ := Rng.cells_at Rng.z (k := k - 1) (HL.out.below hB) (by omega)
        simp only [Option.some.injEq, Addr.mk.injEq, and_true] at hbo
        obtain ⟨rfl, rfl⟩ := hbo
        rw [hd]
        unfold endAt
        rw [if_neg (by omega)]
      clear HL hb1
      generalize (l.getD k Rng.z).lo = x at *
      generalize (l.getD k Rng.z).hi = y at *
      generalize endAt done l k = e at *
      by_cases c0 : k = 0
      · obtain rfl : e = done := hz c0
        subst c0
        clear hz hcz
        simp only [Nat.zero_mul, Nat.add_zero] at hc1 hc2
        go_wp2_with (at_builtin; refine wp_app _ rfl _ _ _ rfl elemRng w.heap.size A' _ c' _ rfl (HO.out.alloc _) _ 1 1 [.int .i64 e, .int .i64 x] rfl rfl (Cells.newAt _ _ _ (by simp)) (by simp [Value.oneCell']) (by omega) (by unfold maxLen; omega) (by simp; omega) ?_; intro A2 c2 w2 hO2 hg2; have HO3 := Lib.hid hO2; clear hO2)
        go_roundw
        case rel => exact ⟨0 + 1, A2, c2, by omega, by go_num, rfl, Lib.hid (by rw [HG.out]; exact HO3.out), Grew.step (balloc hB _) hg2 (fun g hg => (HO.out.lt g hg).1)⟩
        case measure => simp [intOf]; omega
      · have hcz' := hcz (by omega)
        have c0' : 0 < k := by omega
        clear hz hcz
        go_wp2_with (at_builtin; refine wp_app _ rfl _ _ _ rfl elemRng w.heap.size A' _ c' _ rfl (HO.out.alloc _) _ 1 1 [.int .i64 e, .int .i64 x] rfl rfl (Cells.newAt _ _ _ (by simp)) (by simp [Value.oneCell']) (by omega) (by unfold maxLen; omega) (by simp; omega) ?_; intro A2 c2 w2 hO2 hg2; have HO3 := Lib.hid hO2; clear hO2)
        go_roundw
        case rel => exact ⟨k + 1, A2, c2, by omega, by go_num, rfl, Lib.hid (by rw [HG.out]; exact HO3.out), Grew.step (balloc hB _) hg2 (fun g hg => (HO.out.lt g hg).1)⟩
        case measure => simp [intOf]; omega
    · obtain rfl : k = l.length := by omega
      go_wp2
      go_ret2
      exact ⟨A', c', rfl, HO.out, hB⟩

theorem sl_nil {α : Type} (R : Rep α) (w : World) (S : Nat → Prop) : SlRep R w S [] none 0 := ⟨by simp, by simp, .inl rfl⟩

set_option maxHeartbeats 400000 in
theorem lawHoleGaps_walk (done : Int) (_ : IntOk done) (l : List Rng) (A : Option Addr) (c : Nat) (w : World) (hl : SlRep Rng.rep w (· < w.heap.size) l A c) (hok : AllOk 16 Rng.ok l) :
    Calls Try.prog 11 #[.int .i64 done, .slice A l.length c] w fun e w' => e = .returned (.bool true) ∧ Below w.heap.size w w' := by
  have hn : l.length ≤ 140737488351232 := by have := hok.2; omega
  clear hok
  have HL := Lib.hid hl
  clear hl
  cases h : holeMayB done l with
  | true =>
    have hm : HoleMay done l := by simpa [holeMayB] using h
    have hn16 := hm.2.2.1
    clear hm
    go_enter Try.func11, Try.ntmps11
    go_wp2_with fail
    refine (hole_Gaps_ok done l A c w HL.out hn16 h).mono ?_
    rintro e w1 ⟨A1, c1, rfl, ho1, hb1⟩
    have HO1 := Lib.hid ho1
    clear ho1
    go_wp2_with fail
    refine (ref_Gaps_ok done l A c w1 (HL.out.next hb1) hn16 h).mono ?_
    rintro e w2 ⟨A2, c2, rfl, ho2, hb2⟩
    have HO2 := Lib.hid ho2
    have HO1' := Lib.hid (HO1.out.next hb2)
    clear ho2
    go_wp2_with fail
    have r1 := HO1'.out.rng
    have r2 := HO2.out.rng
    have hlen := r1.1
    have hh := law_sameRanges _ _ _ _ _ _ _ w2 r1.2 r2.2 (by rw [gapsTo_length]; omega)
    rw [gapsTo_length] at hh
    refine hh.mono ?_
    rintro e w3 ⟨rfl, hb3⟩
    clear r1 r2 hlen hh
    go_wp2_with fail
    go_ret
    exact ⟨rfl, (by repeat (first | (with_reducible exact Below.refl _ _) | (with_reducible assumption) | (with_reducible refine bset ?_ ?_ _) | (with_reducible refine balloc ?_ _) | (with_reducible refine Below.drew ?_) | (with_reducible refine bdrewN ?_ _) | (with_reducible refine bnext ?_ (by with_reducible assumption)) | exact Nat.le_refl _ | (simp; done) | omega | (simp; omega)))⟩
  | false =>
    go_enter Try.func11, Try.ntmps11
    go_wp2_with fail
    refine (hole_Gaps_no done l A c w HL.out hn h).mono ?_
    rintro e w1 ⟨rfl, hb1⟩
    go_wp2_with fail
    refine (ref_Gaps_no done l A c w1 (HL.out.next hb1) hn h).mono ?_
    rintro e w2 ⟨rfl, hb2⟩
    go_wp2_with fail
    refine (law_sameRanges [] none none 0 0 (fun _ => False) (fun _ => False) w2 (sl_nil _ _ _) (sl_nil _ _ _) (by simp)).mono ?_
    rintro e w3 ⟨rfl, hb3⟩
    go_wp2_with fail
    go_ret
    exact ⟨rfl, (by repeat (first | (with_reducible exact Below.refl _ _) | (with_reducible assumption) | (with_reducible refine bset ?_ ?_ _) | (with_reducible refine balloc ?_ _) | (with_reducible refine Below.drew ?_) | (with_reducible refine bdrewN ?_ _) | (with_reducible refine bnext ?_ (by with_reducible assumption)) | exact Nat.le_refl _ | (simp; done) | omega | (simp; omega)))⟩
end Go.Proofs.Ytdjdjjbcmlnecaa
