/- Package msg: the parts of a request: their makers. No condition. -/
import Derived.Test.YtcpbgiikfabaaaaMsgP
import Derived.Test.YtcpbgiikfabaaaaTail
import Derived.Test.YtcpbgiikfabaaaaFrame
import Derived.Test.YtcpbgiikfabaaaaSl
import Derived.Test.YtcpbgiikfabaaaaStr
import Derived.BigQuiet
import Derived.IntWalk
import Derived.Deep.QuietTactic
import Derived.Deep.RegionWith
import Derived.Deep.DeepCutAuto
import Derived.Deep.RegionLaw
namespace Go.Proofs.Ytcpbgiikfabaaaa
open Go.RowKit

/-- the part of a field, of the request in block B -/
def mg.cells (B : Nat) : mg.Sel → List Value
  | .kind => [.int .i64 1, .pointer (some ⟨B, 0, none⟩), .pointer none, .pointer none]
  | .mark => [.int .i64 4, .pointer (some ⟨B, 1, none⟩), .pointer none, .pointer none]
  | .path => [.int .i64 0, .pointer none, .pointer (some ⟨B, 2, none⟩), .pointer none]
  | .to => [.int .i64 0, .pointer none, .pointer (some ⟨B, 3, none⟩), .pointer none]
  | .how => [.int .i64 1, .pointer (some ⟨B, 4, none⟩), .pointer none, .pointer none]
  | .handle => [.int .i64 4, .pointer (some ⟨B, 5, none⟩), .pointer none, .pointer none]
  | .at_ => [.int .i64 4, .pointer (some ⟨B, 6, none⟩), .pointer none, .pointer none]
  | .count => [.int .i64 2, .pointer (some ⟨B, 7, none⟩), .pointer none, .pointer none]
  | .data => [.int .i64 0, .pointer none, .pointer none, .pointer (some ⟨B, 8, none⟩)]
theorem elemPart : ElemT Try.prog 42 50 4 32 := ElemT.of Try.underlying42 (z := .agg #[.int .i64 0, .pointer none, .pointer none, .pointer none]) (by kernel_rfl) rfl (by decide)

set_option maxHeartbeats 400000 in
theorem msg_number (n : Int) (a : Addr) (w : World) : Calls Try.prog 36 #[.int .i64 n, .pointer (some a)] w fun e w' => e = .returned (.agg #[.int .i64 n, .pointer (some a), .pointer none, .pointer none]) ∧ Below w.heap.size w w' := by
  go_enter Try.func36, Try.ntmps36
  go_wp2
  exact bodyPost_ret (v := .agg #[.int .i64 n, .pointer (some a), .pointer none, .pointer none]) (by first | (simp [results, Try.results36, go_sem]; done) | (simp [results, Try.results36, go_sem, *]; done)) rfl ⟨rfl, (by repeat (first | (with_reducible exact Below.refl _ _) | (with_reducible assumption) | (with_reducible refine bset ?_ ?_ _) | (with_reducible refine balloc ?_ _) | (with_reducible refine Below.drew ?_) | (with_reducible refine bdrewN ?_ _) | (with_reducible refine bnext ?_ (by with_reducible assumption)) | exact Nat.le_refl _ | (simp; done) | omega | (simp; omega)))⟩
set_option maxHeartbeats 400000 in
theorem msg_text (a : Addr) (w : World) : Calls Try.prog 32 #[.pointer (some a)] w fun e w' => e = .returned (.agg #[.int .i64 0, .pointer none, .pointer (some a), .pointer none]) ∧ Below w.heap.size w w' := by
  go_enter Try.func32, Try.ntmps32
  go_wp2
  exact bodyPost_ret (v := .agg #[.int .i64 0, .pointer none, .pointer (some a), .pointer none]) (by first | (simp [results, Try.results32, go_sem]; done) | (simp [results, Try.results32, go_sem, *]; done)) rfl ⟨rfl, (by repeat (first | (with_reducible exact Below.refl _ _) | (with_reducible assumption) | (with_reducible refine bset ?_ ?_ _) | (with_reducible refine balloc ?_ _) | (with_reducible refine Below.drew ?_) | (with_reducible refine bdrewN ?_ _) | (with_reducible refine bnext ?_ (by with_reducible assumption)) | exact Nat.le_refl _ | (simp; done) | omega | (simp; omega)))⟩
set_option maxHeartbeats 400000 in
theorem msg_data (a : Addr) (w : World) : Calls Try.prog 37 #[.pointer (some a)] w fun e w' => e = .returned (.agg #[.int .i64 0, .pointer none, .pointer none, .pointer (some a)]) ∧ Below w.heap.size w w' := by
  go_enter Try.func37, Try.ntmps37
  go_wp2
  exact bodyPost_ret (v := .agg #[.int .i64 0, .pointer none, .pointer none, .pointer (some a)]) (by first | (simp [results, Try.results37, go_sem]; done) | (simp [results, Try.results37, go_sem, *]; done)) rfl ⟨rfl, (by repeat (first | (with_reducible exact Below.refl _ _) | (with_reducible assumption) | (with_reducible refine bset ?_ ?_ _) | (with_reducible refine balloc ?_ _) | (with_reducible refine Below.drew ?_) | (with_reducible refine bdrewN ?_ _) | (with_reducible refine bnext ?_ (by with_reducible assumption)) | exact Nat.le_refl _ | (simp; done) | omega | (simp; omega)))⟩

set_option maxHeartbeats 2000000 in
theorem msg_begun (B : Nat) (w : World) : Calls Try.prog 18 #[.pointer (some ⟨B, 0, none⟩)] w fun e w' => ∃ A c, e = .returned (.slice A 2 c) ∧ Own w' w.heap.size 50 4 A 2 c ([mg.Sel.kind, .mark].flatMap (mg.cells B)) ∧ Below w.heap.size w w' := by
  go_enter Try.func18, Try.ntmps18
  go_wp2
  go_region_with (go_at_call 36; refine (msg_number _ _ _).mono ?_; rintro e w2 ⟨rfl, hb2⟩; have hz2 := hb2.size; (try simp only [World.size_drew] at hz2))
  all_goals
    go_wp2
    go_ret
    exact ⟨_, _, rfl, Own.lit _ w.heap.size 50 4 2 _ (by first | (simp; omega) | omega) rfl (by decide), (by repeat (first | (with_reducible exact Below.refl _ _) | (with_reducible assumption) | (with_reducible refine bset ?_ ?_ _) | (with_reducible refine balloc ?_ _) | (with_reducible refine Below.drew ?_) | (with_reducible refine bdrewN ?_ _) | (with_reducible refine bnext ?_ (by with_reducible assumption)) | exact Nat.le_refl _ | (simp; done) | omega | (simp; omega)))⟩

/-- a part in memory -/
structure mg.Four (w : World) (b : Nat) (cs : List Value) : Prop where
  c0 : w.cell? ⟨b, 0, none⟩ = cs[0]?
  c1 : w.cell? ⟨b, 1, none⟩ = cs[1]?
  c2 : w.cell? ⟨b, 2, none⟩ = cs[2]?
  c3 : w.cell? ⟨b, 3, none⟩ = cs[3]?
/-- a row of parts -/
def mg.Row (B : Nat) (l : List mg.Sel) (w : World) (e : Ending) (w' : World) : Prop :=
  ∃ A c, e = .returned (.slice A l.length c) ∧ Own w' w.heap.size 50 4 A l.length c (l.flatMap (mg.cells B)) ∧ Below w.heap.size w w'
set_option maxRecDepth 100000 in
set_option maxHeartbeats 4000000 in
theorem msg_parts (B : Nat) (k : Int) (w : World) (hB : B < w.heap.size) (hk : w.cell? ⟨B, 0, none⟩ = some (.int .i64 k)) : Calls Try.prog 19 #[.pointer (some ⟨B, 0, none⟩)] w (mg.Row B (mg.parts k) w) := by
  go_enter Try.func19, Try.ntmps19
  go_upto_region 2 with fail
  go_cut [3, 4] (fun s3 s4 wx => ∃ b1 b2 : Nat, s3 = .pointer (some ⟨b1, 0, none⟩) ∧ s4 = .pointer (some ⟨b2, 0, none⟩) ∧ Hid (mg.Four wx b1 (mg.cells B .handle) ∧ mg.Four wx b2 (mg.cells B .at_) ∧ Below w.heap.size w wx))
  case first =>
    go_region_law (first
      | (go_simp; go_at_call 36; refine (msg_number 4 ⟨B, 5, none⟩ _).mono ?_; rintro e w2 ⟨rfl, hb2⟩; have hz2 := hb2.size; (try simp only [World.size_drew, World.size_alloc] at hz2); (try (have lhb20 : w.heap.size < w2.heap.size := Nat.lt_of_lt_of_le (by first | omega | (simp; done) | (simp; omega)) hb2.size)); (try (have chb20 := fun o => hb2.cell (p := ⟨w.heap.size, o, none⟩) (by first | (show _ < _; omega) | (simp; done) | (simp; omega)); (try simp [go_sem, *] at chb20))); (try (have fhb20 := fun o => hb2.frozen (p := ⟨w.heap.size, o, none⟩) (by first | (show _ < _; omega) | (simp; done) | (simp; omega)); (try simp [go_sem, *] at fhb20))); (try (have lhb21 : w.heap.size + 1 < w2.heap.size := Nat.lt_of_lt_of_le (by first | omega | (simp; done) | (simp; omega)) hb2.size)); (try (have chb21 := fun o => hb2.cell (p := ⟨w.heap.size + 1, o, none⟩) (by first | (show _ < _; omega) | (simp; done) | (simp; omega)); (try simp [go_sem, *] at chb21))); (try (have fhb21 := fun o => hb2.frozen (p := ⟨w.heap.size + 1, o, none⟩) (by first | (show _ < _; omega) | (simp; done) | (simp; omega)); (try simp [go_sem, *] at fhb21))); go_simp)
      | (go_simp; go_at_call 36; refine (msg_number 4 ⟨B, 6, none⟩ _).mono ?_; rintro e w3 ⟨rfl, hb3⟩; have hz3 := hb3.size; (try simp only [World.size_drew, World.size_alloc] at hz3); (try (have lhb30 : w.heap.size < w3.heap.size := Nat.lt_of_lt_of_le (by first | omega | (simp; done) | (simp; omega)) hb3.size)); (try (have chb30 := fun o => hb3.cell (p := ⟨w.heap.size, o, none⟩) (by first | (show _ < _; omega) | (simp; done) | (simp; omega)); (try simp [go_sem, *] at chb30))); (try (have fhb30 := fun o => hb3.frozen (p := ⟨w.heap.size, o, none⟩) (by first | (show _ < _; omega) | (simp; done) | (simp; omega)); (try simp [go_sem, *] at fhb30))); (try (have lhb31 : w.heap.size + 1 < w3.heap.size := Nat.lt_of_lt_of_le (by first | omega | (simp; done) | (simp; omega)) hb3.size)); (try (have chb31 := fun o => hb3.cell (p := ⟨w.heap.size + 1, o, none⟩) (by first | (show _ < _; omega) | (simp; done) | (simp; omega)); (try simp [go_sem, *] at chb31))); (try (have fhb31 := fun o => hb3.frozen (p := ⟨w.heap.size + 1, o, none⟩) (by first | (show _ < _; omega) | (simp; done) | (simp; omega)); (try simp [go_sem, *] at fhb31))); (try (have lhb32 : w2.heap.size < w3.heap.size := Nat.lt_of_lt_of_le (by first | omega | (simp; done) | (simp; omega)) hb3.size)); (try (have chb32 := fun o => hb3.cell (p := ⟨w2.heap.size, o, none⟩) (by first | (show _ < _; omega) | (simp; done) | (simp; omega)); (try simp [go_sem, *] at chb32))); (try (have fhb32 := fun o => hb3.frozen (p := ⟨w2.heap.size, o, none⟩) (by first | (show _ < _; omega) | (simp; done) | (simp; omega)); (try simp [go_sem, *] at fhb32))); (try (have lhb33 : w2.heap.size + 1 < w3.heap.size := Nat.lt_of_lt_of_le (by first | omega | (simp; done) | (simp; omega)) hb3.size)); (try (have chb33 := fun o => hb3.cell (p := ⟨w2.heap.size + 1, o, none⟩) (by first | (show _ < _; omega) | (simp; done) | (simp; omega)); (try simp [go_sem, *] at chb33))); (try (have fhb33 := fun o => hb3.frozen (p := ⟨w2.heap.size + 1, o, none⟩) (by first | (show _ < _; omega) | (simp; done) | (simp; omega)); (try simp [go_sem, *] at fhb33))); go_simp)
      | fail)
    all_goals
      go_wp2
      go_meet
      refine ⟨_, _, rfl, rfl, Lib.hid ⟨⟨?_, ?_, ?_, ?_⟩, ⟨?_, ?_, ?_, ?_⟩, ?_⟩⟩
      rotate_left 8
      · exact (by repeat (first | (with_reducible exact Below.refl _ _) | (with_reducible assumption) | (with_reducible refine bset ?_ ?_ _) | (with_reducible refine balloc ?_ _) | (with_reducible refine Below.drew ?_) | (with_reducible refine bdrewN ?_ _) | (with_reducible refine bnext ?_ (by with_reducible assumption)) | exact Nat.le_refl _ | (simp; done) | omega | (simp; omega)))
      all_goals simp [go_sem, mg.cells, *]
  case rest =>
    obtain ⟨b1, b2, rfl, rfl, HF⟩ := hcut
    rename World => wr
    have hk2 : wr.cell? ⟨B, 0, none⟩ = some (.int .i64 k) := (HF.out.2.2.cell (p := ⟨B, 0, none⟩) hB).trans hk
    have x0 := HF.out.1.c0
    have x1 := HF.out.1.c1
    have x2 := HF.out.1.c2
    have x3 := HF.out.1.c3
    have y0 := HF.out.2.1.c0
    have y1 := HF.out.2.1.c1
    have y2 := HF.out.2.1.c2
    have y3 := HF.out.2.1.c3
    have hbw := HF.out.2.2
    have hws := hbw.size
    simp only [mg.cells, List.getElem?_cons_zero, List.getElem?_cons_succ] at x0 x1 x2 x3 y0 y1 y2 y3
    have hl1 : b1 < wr.heap.size := World.block_lt_of_cell? wr _ x0
    have hl2 : b2 < wr.heap.size := World.block_lt_of_cell? wr _ y0
    clear hk
    by_cases h1 : k = 1
    · subst h1
      go_wp2
      go_region_with (first | (go_at_call 36; refine (msg_number _ _ _).mono ?_; rintro e w2 ⟨rfl, hb2⟩; have hz2 := hb2.size; (try simp only [World.size_drew] at hz2)) | (go_at_call 32; refine (msg_text _ _).mono ?_; rintro e w2 ⟨rfl, hb2⟩; have hz2 := hb2.size; (try simp only [World.size_drew] at hz2)) | (go_at_call 37; refine (msg_data _ _).mono ?_; rintro e w2 ⟨rfl, hb2⟩; have hz2 := hb2.size; (try simp only [World.size_drew] at hz2)) | fail)
      all_goals
        go_wp2
        go_ret
        exact ⟨_, _, rfl, Own.lit _ w.heap.size 50 4 2 _ (by first | omega | (simp; omega)) rfl (by decide), (by repeat (first | (with_reducible exact Below.refl _ _) | (with_reducible assumption) | (with_reducible refine bset ?_ ?_ _) | (with_reducible refine balloc ?_ _) | (with_reducible refine Below.drew ?_) | (with_reducible refine bdrewN ?_ _) | (with_reducible refine bnext ?_ (by with_reducible assumption)) | exact Nat.le_refl _ | (simp; done) | omega | (simp; omega)))⟩
    by_cases h2 : k = 2
    · subst h2
      go_wp2
      go_ret
      exact ⟨_, _, rfl, Own.lit _ w.heap.size 50 4 1 _ (by first | omega | (simp; omega)) rfl (by decide), (by repeat (first | (with_reducible exact Below.refl _ _) | (with_reducible assumption) | (with_reducible refine bset ?_ ?_ _) | (with_reducible refine balloc ?_ _) | (with_reducible refine Below.drew ?_) | (with_reducible refine bdrewN ?_ _) | (with_reducible refine bnext ?_ (by with_reducible assumption)) | exact Nat.le_refl _ | (simp; done) | omega | (simp; omega)))⟩
    by_cases h3 : k = 3
    · subst h3
      go_wp2
      go_region_with (first | (go_at_call 36; refine (msg_number _ _ _).mono ?_; rintro e w2 ⟨rfl, hb2⟩; have hz2 := hb2.size; (try simp only [World.size_drew] at hz2); have m0 := (hb2.cell (p := ⟨b1, 0, none⟩) hl1).trans x0; have m1 := (hb2.cell (p := ⟨b1, 1, none⟩) hl1).trans x1; have m2 := (hb2.cell (p := ⟨b1, 2, none⟩) hl1).trans x2; have m3 := (hb2.cell (p := ⟨b1, 3, none⟩) hl1).trans x3; have n0 := (hb2.cell (p := ⟨b2, 0, none⟩) hl2).trans y0; have n1 := (hb2.cell (p := ⟨b2, 1, none⟩) hl2).trans y1; have n2 := (hb2.cell (p := ⟨b2, 2, none⟩) hl2).trans y2; have n3 := (hb2.cell (p := ⟨b2, 3, none⟩) hl2).trans y3) | (go_at_call 32; refine (msg_text _ _).mono ?_; rintro e w2 ⟨rfl, hb2⟩; have hz2 := hb2.size; (try simp only [World.size_drew] at hz2); have m0 := (hb2.cell (p := ⟨b1, 0, none⟩) hl1).trans x0; have m1 := (hb2.cell (p := ⟨b1, 1, none⟩) hl1).trans x1; have m2 := (hb2.cell (p := ⟨b1, 2, none⟩) hl1).trans x2; have m3 := (hb2.cell (p := ⟨b1, 3, none⟩) hl1).trans x3; have n0 := (hb2.cell (p := ⟨b2, 0, none⟩) hl2).trans y0; have n1 := (hb2.cell (p := ⟨b2, 1, none⟩) hl2).trans y1; have n2 := (hb2.cell (p := ⟨b2, 2, none⟩) hl2).trans y2; have n3 := (hb2.cell (p := ⟨b2, 3, none⟩) hl2).trans y3) | (go_at_call 37; refine (msg_data _ _).mono ?_; rintro e w2 ⟨rfl, hb2⟩; have hz2 := hb2.size; (try simp only [World.size_drew] at hz2); have m0 := (hb2.cell (p := ⟨b1, 0, none⟩) hl1).trans x0; have m1 := (hb2.cell (p := ⟨b1, 1, none⟩) hl1).trans x1; have m2 := (hb2.cell (p := ⟨b1, 2, none⟩) hl1).trans x2; have m3 := (hb2.cell (p := ⟨b1, 3, none⟩) hl1).trans x3; have n0 := (hb2.cell (p := ⟨b2, 0, none⟩) hl2).trans y0; have n1 := (hb2.cell (p := ⟨b2, 1, none⟩) hl2).trans y1; have n2 := (hb2.cell (p := ⟨b2, 2, none⟩) hl2).trans y2; have n3 := (hb2.cell (p := ⟨b2, 3, none⟩) hl2).trans y3) | fail)
      all_goals
        go_wp2
        go_ret
        exact ⟨_, _, rfl, Own.lit _ w.heap.size 50 4 3 _ (by first | omega | (simp; omega)) rfl (by decide), (by repeat (first | (with_reducible exact Below.refl _ _) | (with_reducible assumption) | (with_reducible refine bset ?_ ?_ _) | (with_reducible refine balloc ?_ _) | (with_reducible refine Below.drew ?_) | (with_reducible refine bdrewN ?_ _) | (with_reducible refine bnext ?_ (by with_reducible assumption)) | exact Nat.le_refl _ | (simp; done) | omega | (simp; omega)))⟩
    by_cases h4 : k = 4
    · subst h4
      go_wp2
      go_region_with (first | (go_at_call 36; refine (msg_number _ _ _).mono ?_; rintro e w2 ⟨rfl, hb2⟩; have hz2 := hb2.size; (try simp only [World.size_drew] at hz2); have m0 := (hb2.cell (p := ⟨b1, 0, none⟩) hl1).trans x0; have m1 := (hb2.cell (p := ⟨b1, 1, none⟩) hl1).trans x1; have m2 := (hb2.cell (p := ⟨b1, 2, none⟩) hl1).trans x2; have m3 := (hb2.cell (p := ⟨b1, 3, none⟩) hl1).trans x3; have n0 := (hb2.cell (p := ⟨b2, 0, none⟩) hl2).trans y0; have n1 := (hb2.cell (p := ⟨b2, 1, none⟩) hl2).trans y1; have n2 := (hb2.cell (p := ⟨b2, 2, none⟩) hl2).trans y2; have n3 := (hb2.cell (p := ⟨b2, 3, none⟩) hl2).trans y3) | (go_at_call 32; refine (msg_text _ _).mono ?_; rintro e w2 ⟨rfl, hb2⟩; have hz2 := hb2.size; (try simp only [World.size_drew] at hz2); have m0 := (hb2.cell (p := ⟨b1, 0, none⟩) hl1).trans x0; have m1 := (hb2.cell (p := ⟨b1, 1, none⟩) hl1).trans x1; have m2 := (hb2.cell (p := ⟨b1, 2, none⟩) hl1).trans x2; have m3 := (hb2.cell (p := ⟨b1, 3, none⟩) hl1).trans x3; have n0 := (hb2.cell (p := ⟨b2, 0, none⟩) hl2).trans y0; have n1 := (hb2.cell (p := ⟨b2, 1, none⟩) hl2).trans y1; have n2 := (hb2.cell (p := ⟨b2, 2, none⟩) hl2).trans y2; have n3 := (hb2.cell (p := ⟨b2, 3, none⟩) hl2).trans y3) | (go_at_call 37; refine (msg_data _ _).mono ?_; rintro e w2 ⟨rfl, hb2⟩; have hz2 := hb2.size; (try simp only [World.size_drew] at hz2); have m0 := (hb2.cell (p := ⟨b1, 0, none⟩) hl1).trans x0; have m1 := (hb2.cell (p := ⟨b1, 1, none⟩) hl1).trans x1; have m2 := (hb2.cell (p := ⟨b1, 2, none⟩) hl1).trans x2; have m3 := (hb2.cell (p := ⟨b1, 3, none⟩) hl1).trans x3; have n0 := (hb2.cell (p := ⟨b2, 0, none⟩) hl2).trans y0; have n1 := (hb2.cell (p := ⟨b2, 1, none⟩) hl2).trans y1; have n2 := (hb2.cell (p := ⟨b2, 2, none⟩) hl2).trans y2; have n3 := (hb2.cell (p := ⟨b2, 3, none⟩) hl2).trans y3) | fail)
      all_goals
        go_wp2
        go_ret
        exact ⟨_, _, rfl, Own.lit _ w.heap.size 50 4 3 _ (by first | omega | (simp; omega)) rfl (by decide), (by repeat (first | (with_reducible exact Below.refl _ _) | (with_reducible assumption) | (with_reducible refine bset ?_ ?_ _) | (with_reducible refine balloc ?_ _) | (with_reducible refine Below.drew ?_) | (with_reducible refine bdrewN ?_ _) | (with_reducible refine bnext ?_ (by with_reducible assumption)) | exact Nat.le_refl _ | (simp; done) | omega | (simp; omega)))⟩
    by_cases h5 : k = 5 ∨ k = 6 ∨ k = 7 ∨ k = 8
    · rcases h5 with rfl | rfl | rfl | rfl
      all_goals
        go_wp2_with (first | (go_at_call 32; refine (msg_text _ _).mono ?_; rintro e w2 ⟨rfl, hb2⟩; have hz2 := hb2.size) | fail)
        go_ret
        exact ⟨_, _, rfl, Own.lit _ w.heap.size 50 4 1 _ (by first | omega | (simp; omega)) rfl (by decide), (by repeat (first | (with_reducible exact Below.refl _ _) | (with_reducible assumption) | (with_reducible refine bset ?_ ?_ _) | (with_reducible refine balloc ?_ _) | (with_reducible refine Below.drew ?_) | (with_reducible refine bdrewN ?_ _) | (with_reducible refine bnext ?_ (by with_reducible assumption)) | exact Nat.le_refl _ | (simp; done) | omega | (simp; omega)))⟩
    by_cases h9 : k = 9 ∨ k = 10
    · rcases h9 with rfl | rfl
      all_goals
        go_wp2
        go_region_with (first | (go_at_call 36; refine (msg_number _ _ _).mono ?_; rintro e w2 ⟨rfl, hb2⟩; have hz2 := hb2.size; (try simp only [World.size_drew] at hz2)) | (go_at_call 32; refine (msg_text _ _).mono ?_; rintro e w2 ⟨rfl, hb2⟩; have hz2 := hb2.size; (try simp only [World.size_drew] at hz2)) | (go_at_call 37; refine (msg_data _ _).mono ?_; rintro e w2 ⟨rfl, hb2⟩; have hz2 := hb2.size; (try simp only [World.size_drew] at hz2)) | fail)
        all_goals
          go_wp2
          go_ret
          exact ⟨_, _, rfl, Own.lit _ w.heap.size 50 4 2 _ (by first | omega | (simp; omega)) rfl (by decide), (by repeat (first | (with_reducible exact Below.refl _ _) | (with_reducible assumption) | (with_reducible refine bset ?_ ?_ _) | (with_reducible refine balloc ?_ _) | (with_reducible refine Below.drew ?_) | (with_reducible refine bdrewN ?_ _) | (with_reducible refine bnext ?_ (by with_reducible assumption)) | exact Nat.le_refl _ | (simp; done) | omega | (simp; omega)))⟩
    have q1 : (k == 1) = false := beq_eq_false_iff_ne.2 h1
    have q2 : (k == 2) = false := beq_eq_false_iff_ne.2 h2
    have q3 : (k == 3) = false := beq_eq_false_iff_ne.2 h3
    have q4 : (k == 4) = false := beq_eq_false_iff_ne.2 h4
    have q5 : (k == 5) = false := beq_eq_false_iff_ne.2 (by omega)
    have q6 : (k == 6) = false := beq_eq_false_iff_ne.2 (by omega)
    have q7 : (k == 7) = false := beq_eq_false_iff_ne.2 (by omega)
    have q8 : (k == 8) = false := beq_eq_false_iff_ne.2 (by omega)
    have q9 : (k == 9) = false := beq_eq_false_iff_ne.2 (by omega)
    have q10 : (k == 10) = false := beq_eq_false_iff_ne.2 (by omega)
    have HN : Hid (mg.parts k = []) := Lib.hid ((mg.parts_nil k).2 (by omega))
    clear h1 h2 h3 h4 h5 h9
    go_wp2
    go_ret
    unfold mg.Row
    rw [HN.out]
    exact ⟨none, 0, rfl, Own.nil _ _ _ _, hbw⟩
end Go.Proofs.Ytcpbgiikfabaaaa
