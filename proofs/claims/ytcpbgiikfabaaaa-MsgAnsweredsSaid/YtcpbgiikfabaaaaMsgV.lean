/- Package msg: Asked. No condition. -/
import Derived.Test.YtcpbgiikfabaaaaMsgU
namespace Go.Proofs.Ytcpbgiikfabaaaa
open Go.RowKit

set_option maxRecDepth 100000 in
set_option maxHeartbeats 4000000 in
theorem msg_parts_nil (B : Nat) (k : Int) (w : World) (hB : B < w.heap.size) (hk : w.cell? ⟨B, 0, none⟩ = some (.int .i64 k)) (hn : mg.parts k = []) : Calls Try.prog 19 #[.pointer (some ⟨B, 0, none⟩)] w fun e w' => e = .returned (.slice none 0 0) ∧ Below w.heap.size w w' := by
  have hkk := (mg.parts_nil k).1 hn
  clear hn
  go_enter Try.func19, Try.ntmps19
  go_upto_region 2 with fail
  go_cut [3, 4] (fun s3 s4 wx => ∃ b1 b2 : Nat, s3 = .pointer (some ⟨b1, 0, none⟩) ∧ s4 = .pointer (some ⟨b2, 0, none⟩) ∧ Hid (mg.Four wx b1 (mg.cells B .handle) ∧ mg.Four wx b2 (mg.cells B .at_) ∧ Below w.heap.size w wx))
  case first =>
    go_region_law (first
      | (go_simp; go_at_call 36; refine (msg_number 4 ⟨B, 5, none⟩ _).mono ?_; rintro e w2 ⟨rfl, hb2⟩; have hz2 := hb2.size; (try simp only [World.size_drew, World.size_alloc] at hz2); (try (have lhb20 : w.heap.size < w2.heap.size := Nat.lt_of_lt_of_le (by first | omega | (simp; done) | (simp; omega)) hb2.size)); (try (have chb20 := fun o => hb2.cell (p := ⟨w.heap.size, o, none⟩) (by first | (show _ < _; omega) | (simp; done) | (simp; omega)); (try simp [go_sem, *] at chb20))); (try (have fhb20 := fun o => hb2.frozen (p := ⟨w.heap.size, o, none⟩) (by first | (show _ < _; omega) | (simp; done) | (simp; omega)); (try simp [go_sem, *] at fhb20))); (try (have lhb21 : w.heap.size + 1 < w2.heap.size := Nat.lt_of_lt_of_le (by first | omega | (simp; done) | (simp; omega)) hb2.size)); (try (have chb21 := fun o => hb2.cell (p := ⟨w.heap.size + 1, o, none⟩) (by first | (show _ < _; omega) | (simp; done) | (simp; omega)); (try simp [go_sem, *] at chb21))); (try (have fhb21 := fun o => hb2.frozen (p := ⟨w.heap.size + 1, o, none⟩) (by first | (show _ < _; omega) | (simp; done) | (simp; omega)); (try simp [go_sem, *] at fhb21))); go_simp)
      | (go_simp; go_at_call 36; refine (msg_number 4 ⟨B, 6, none⟩ _).mono ?_; rintro e w3 ⟨rfl, hb3⟩; have hz3 := hb3.size; (try simp only [World.size_drew, World.size_alloc] at hz3); (try (have lhb30 : w.heap.size < w3.heap.size := Nat.lt_of_lt_of_le (by first | omega | (simp; done) | (simp; omega)) hb3.size)); (try (have chb30 := fun o => hb3.cell (p := ⟨w.heap.size, o, none⟩) (by first | (show _ < _; omega) | (simp; done) | (simp; omega)); (try simp [go_sem, *] at chb30))); (try (have fhb30 := fun o => hb3.frozen (p := ⟨w.heap.size, o, none⟩) (by first | (show _ < _; omega) | (simp; done) | (simp; omega)); (try simp [go_sem, *] at fhb30))); (try (have lhb31 : w.heap.size + 1 < w3.heap.size := Nat.lt_of_lt_of_le (by first | omega | (simp; done) | (simp; omega)) hb3.size)); (try (have chb31 := fun o => hb3.cell (p := ⟨w.heap.size + 1, o, none⟩) (by first | (show _ < _; omega) | (simp; done) | (simp; omega)); (try simp [go_sem, *] at chb31))); (try (have fhb31 := fun o => hb3.frozen (p := ⟨w.heap.size + 1, o, none⟩) (by first | (show _ < _; omega) | (simp; done) | (simp; omega)); (try simp [go_sem, *] at fhb31))); (try (have lhb32 : w2.heap.size < w3.heap.size := Nat.lt_of_lt_of_le (by first | omega | (simp; done) | (simp; omega)) hb3.size)); (try (have chb32 := fun o => hb3.cell (p := ⟨w2.heap.size, o, none⟩) (by first | (show _ < _; omega) | (simp; done) | (simp; omega)); (try simp [go_sem, *] at chb32))); (try (have fhb32 := fun o => hb3.frozen (p := ⟨w2.heap.size, o, none⟩) (by first | (show _ < _; omega) | (simp; done) | (simp; omega)); (try simp [go_sem, *] at fhb32))); (try (have lhb33 : w2.heap.size + 1 < w3.heap.size := Nat.lt_of_lt_of_le (by first | omega | (simp; done) | (simp; omega)) hb3.size)); (try (have chb33 := fun o => hb3.cell (p := ⟨w2.heap.size + 1, o, none⟩) (by first | (show _ < _; omega) | (simp; done) | (simp; omega)); (try simp [go_sem, *] at chb33))); (try (have fhb33 := fun o => hb3.frozen (p := ⟨w2.heap.size + 1, o, none⟩) (by first | (show _ < _; omega) | (simp; done) | (simp; omega)); (try simp [go_sem, *] at fhb33))); go_simp)
      | fail)
    all_goals
      go_wp2
      go_meet
      refine ⟨_, _, rfl, rfl, Lib.hid ⟨⟨?_, ?_, ?_, ?_⟩, ⟨?_, ?_, ?_, ?_⟩, ?_⟩⟩
      rotate_left 8
      · exact (by repeat (first | (with_reducible exact Below.refl _ _) | (with_reducible assumption) | (with_reducible refine bset ?_ ?_ _) | (with_reducible refine balloc ?_ _) | (with_reducible refine Below.drew ?_) | (with_reducible refine bdrewN ?_ _) | (with_reducible refine bnext ?_ (by with_reducible assumption)) | exact Nat.le_refl _ | (simp; done) | omega | (simp; omega)))
      all_goals simp [go_sem, mg.cells, *]
  case rest =>
    obtain ⟨b1, b2, rfl, rfl, HF⟩ := hcut
    rename World => wr
    have hk2 : wr.cell? ⟨B, 0, none⟩ = some (.int .i64 k) := (HF.out.2.2.cell (p := ⟨B, 0, none⟩) hB).trans hk
    have x0 := HF.out.1.c0
    have x1 := HF.out.1.c1
    have x2 := HF.out.1.c2
    have x3 := HF.out.1.c3
    have y0 := HF.out.2.1.c0
    have y1 := HF.out.2.1.c1
    have y2 := HF.out.2.1.c2
    have y3 := HF.out.2.1.c3
    have hbw := HF.out.2.2
    have hws := hbw.size
    simp only [mg.cells, List.getElem?_cons_zero, List.getElem?_cons_succ] at x0 x1 x2 x3 y0 y1 y2 y3
    have hl1 : b1 < wr.heap.size := World.block_lt_of_cell? wr _ x0
    have hl2 : b2 < wr.heap.size := World.block_lt_of_cell? wr _ y0
    clear hk
    have q1 : (k == 1) = false := beq_eq_false_iff_ne.2 (by omega)
    have q2 : (k == 2) = false := beq_eq_false_iff_ne.2 (by omega)
    have q3 : (k == 3) = false := beq_eq_false_iff_ne.2 (by omega)
    have q4 : (k == 4) = false := beq_eq_false_iff_ne.2 (by omega)
    have q5 : (k == 5) = false := beq_eq_false_iff_ne.2 (by omega)
    have q6 : (k == 6) = false := beq_eq_false_iff_ne.2 (by omega)
    have q7 : (k == 7) = false := beq_eq_false_iff_ne.2 (by omega)
    have q8 : (k == 8) = false := beq_eq_false_iff_ne.2 (by omega)
    have q9 : (k == 9) = false := beq_eq_false_iff_ne.2 (by omega)
    have q10 : (k == 10) = false := beq_eq_false_iff_ne.2 (by omega)
    clear hkk
    go_wp2
    go_ret
    exact ⟨rfl, hbw⟩

theorem mg.Ok.set {r : Request} (h : mg.Ok r) (s : mg.Sel) {n : Int} (hn : IntOk n) (x : List UInt8) : mg.Ok (mg.setR r s n x) := by
  obtain ⟨h1, h2, h3, h4, h5, h6⟩ := h
  cases s <;> exact ⟨by assumption, by assumption, by assumption, by assumption, by assumption, by assumption⟩
theorem mg.getR_ok {s : mg.Sel} {b b' : List UInt8} {r r' : Request} (hr : mg.Ok r) (h : mg.getR s b r = some (b', r')) : mg.Ok r' := by
  unfold mg.getR at h
  split at h
  · split at h
    · cases h
    · cases h
      refine hr.set s ?_ _
      have h1 := feed.be_lt b s.wide
      have h2 : 256 ^ s.wide ≤ 256 ^ 4 := Nat.pow_le_pow_right (by omega) (by cases s <;> decide)
      unfold IntOk
      omega
  · split at h
    · cases h
    · split at h
      · cases h
      · cases h
        exact hr.set s (by unfold IntOk; omega) _
theorem mg.takeR_ok : ∀ {l : List mg.Sel} {b b' : List UInt8} {r r' : Request}, mg.Ok r → mg.takeR l b r = some (b', r') → mg.Ok r'
  | [], _, _, _, _, hr, h => by cases h; exact hr
  | s :: t, b, b', r, r', hr, h => by
    unfold mg.takeR at h
    cases hg : mg.getR s b r with
    | none => rw [hg] at h; cases h
    | some x =>
      rw [hg] at h
      exact mg.takeR_ok (mg.getR_ok hr hg) h
theorem mg.takeR_len : ∀ {l : List mg.Sel} {b b' : List UInt8} {r r' : Request}, mg.takeR l b r = some (b', r') → b'.length ≤ b.length
  | [], _, _, _, _, h => by cases h; exact Nat.le_refl _
  | s :: t, b, b', r, r', h => by
    unfold mg.takeR at h
    cases hg : mg.getR s b r with
    | none => rw [hg] at h; cases h
    | some x =>
      rw [hg] at h
      exact Nat.le_trans (mg.takeR_len h) (mg.getR_len hg)
def exR : Except Int Request → Request
  | .ok r => r
  | .error _ => mg.zeroR
/-- a request, or a fault -/
def AskedRes (x : Except Int Request) (w : World) (e : Ending) (w' : World) : Prop :=
  ∃ A c, e = .returned (.tuple #[.agg (mg.vals (exR x) A c).toArray, .int .i64 (exC x)]) ∧ SlRep Rep.u8 w' (fun k => w.heap.size ≤ k ∧ k < w'.heap.size) (exR x).data A c ∧ Below w.heap.size w w'
theorem AskedRes.no {x : Except Int Request} {c : Int} (h : x = .error c) {w w' : World} (hb : Below w.heap.size w w') : AskedRes x w (.returned (.tuple #[.agg #[.int .i64 0, .int .i64 0, .string ⟨#[]⟩, .string ⟨#[]⟩, .int .i64 0, .int .i64 0, .int .i64 0, .int .i64 0, .slice none 0 0], .int .i64 c])) w' := by
  subst h
  exact ⟨none, 0, rfl, ⟨Nat.le_refl _, Nat.zero_le _, .inl rfl⟩, hb⟩

theorem mg.At.grown {w w' : World} {B g : Nat} {r : Request} {A : Option Addr} {c : Nat} (h : mg.At w B r A c) (hg : w.grownBy w' (some g)) (hB : B ≠ g) : mg.At w' B r A c :=
  have e := hg.block B h.lt (fun e => hB (Option.some.inj e))
  ⟨fun j => (World.cell?_of_block (a := ⟨B, j, none⟩) e).trans (h.cell j), fun j => (World.frozen?_of_block (a := ⟨B, j, none⟩) e).trans (h.free j)⟩
/-- the world that Asked begins with: a result, a request, both blank -/
def mg.W0 (w : World) : World := (w.alloc (.cells #[.int .i64 0, .int .i64 0, .string { data := #[] }, .string { data := #[] }, .int .i64 0, .int .i64 0, .int .i64 0, .int .i64 0, .slice none 0 0] 24)).alloc (.cells #[.int .i64 0, .int .i64 0, .string { data := #[] }, .string { data := #[] }, .int .i64 0, .int .i64 0, .int .i64 0, .int .i64 0, .slice none 0 0] 24)
structure mg.Start (w W : World) : Prop where
  rq : mg.Rq W (w.heap.size + 1) (w.heap.size + 1) mg.zeroR none 0
  hb : Below w.heap.size w W
  size : w.heap.size + 1 < W.heap.size
  res : mg.At W w.heap.size mg.zeroR none 0
theorem mg.start (w : World) : mg.Start w (mg.W0 w) := by
  have e : (w.alloc (.cells #[.int .i64 0, .int .i64 0, .string { data := #[] }, .string { data := #[] }, .int .i64 0, .int .i64 0, .int .i64 0, .int .i64 0, .slice none 0 0] 24)).heap.size = w.heap.size + 1 := by simp
  have h1 := mg.At.new (w.alloc (.cells #[.int .i64 0, .int .i64 0, .string { data := #[] }, .string { data := #[] }, .int .i64 0, .int .i64 0, .int .i64 0, .int .i64 0, .slice none 0 0] 24)) mg.zeroR none 0
  rw [e] at h1
  exact ⟨⟨h1, ⟨Nat.le_refl _, Nat.zero_le _, .inl rfl⟩⟩, balloc (balloc (bself w) _) _, by unfold mg.W0; simp, (mg.At.new w mg.zeroR none 0).next (balloc (bself _) _)⟩

end Go.Proofs.Ytcpbgiikfabaaaa
