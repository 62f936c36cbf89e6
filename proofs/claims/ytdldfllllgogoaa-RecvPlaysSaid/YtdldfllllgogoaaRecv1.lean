/- Package recv: who hears, in memory; New, beyond, the test of keep. No condition. -/
import Derived.Test.YtdldfllllgogoaaRecvP2
import Derived.Test.YtdldfllllgogoaaBlkA
import Derived.RegionTactic
import Derived.BigRegion
import Derived.Deep.RegionLaw
import Derived.Deep.CutBlock
namespace Go.Proofs.Ytdldfllllgogoaa
open Go.RowKit
set_option linter.unusedSimpArgs false

def rv.u8v (b : UInt8) : Value := .int .u8 (b.toNat : Int)
/-- the blocks that hold the ranges: of the call's own, not the hearer's, not its bytes' -/
def rv.InM (w : World) (B F : Nat) (D : Option Addr) (k : Nat) : Prop := B ≤ k ∧ k < w.heap.size ∧ k ≠ F ∧ blkOf D ≠ some k
/-- who hears, in the block F -/
structure HAt (w : World) (B F : Nat) (room : Int) (s : rv.St) (D : Option Addr) (dc : Nat) (M : Option Addr) (mc : Nat) : Prop where
  lo : B ≤ F
  blk : BlkA w F 101 #[.int .i64 room, .slice D s.data.length dc, .int .i64 s.done, .slice M s.more.length mc, .int .i64 s.taken, .int .i64 s.end_]
  data : Own w B 5 1 D s.data.length dc (s.data.map rv.u8v)
  more : SlRep Rng.rep w (rv.InM w B F D) s.more M mc
theorem HAt.next {w w' : World} {B F : Nat} {room : Int} {s : rv.St} {D : Option Addr} {dc : Nat} {M : Option Addr} {mc : Nat} (h : HAt w B F room s D dc M mc) (hb : Below w.heap.size w w') : HAt w' B F room s D dc M mc :=
  ⟨h.lo, h.blk.next hb, h.data.next hb, h.more.keep fun k hk => ⟨⟨hk.1, Nat.lt_of_lt_of_le hk.2.1 hb.size, hk.2.2⟩, hb.block k hk.2.1⟩⟩

set_option maxHeartbeats 400000 in
theorem recv_New (room : Int) (w : World) :
    Calls Try.prog 20 #[.int .i64 room] w fun e w' => e = .returned (.pointer (some ⟨w.heap.size, 0, none⟩)) ∧ HAt w' w.heap.size w.heap.size room rv.start none 0 none 0 ∧ Below w.heap.size w w' := by
  go_enter Try.func20, Try.ntmps20
  go_wp2
  go_ret
  exact ⟨rfl, ⟨Nat.le_refl _, BlkA.new _ _ _, Own.nil _ _ _ _, ⟨Nat.le_refl _, by decide, .inl rfl⟩⟩, (by repeat (first | (with_reducible exact Below.refl _ _) | (with_reducible assumption) | (with_reducible refine bset ?_ ?_ _) | (with_reducible refine balloc ?_ _) | (with_reducible refine Below.drew ?_) | (with_reducible refine bdrewN ?_ _) | (with_reducible refine bnext ?_ (by with_reducible assumption)) | exact Nat.le_refl _ | (simp; done) | omega | (simp; omega)))⟩

theorem rv.beyond_nil {s : rv.St} (h : s.more.length = 0) : rv.beyond s = s.done := by
  unfold rv.beyond
  rw [List.eq_nil_of_length_eq_zero h]
  rfl
theorem rv.beyond_last {s : rv.St} (h : 0 < s.more.length) : rv.beyond s = (s.more.getD (s.more.length - 1) Rng.z).hi := by
  unfold rv.beyond
  rcases List.eq_nil_or_concat s.more with e | ⟨o, x, e⟩
  · rw [e] at h; simp at h
  · rw [List.concat_eq_append] at e
    rw [e]
    simp

set_option maxHeartbeats 400000 in
theorem recv_beyond (B F : Nat) (room : Int) (s : rv.St) (D : Option Addr) (dc : Nat) (M : Option Addr) (mc : Nat) (w : World) (h : HAt w B F room s D dc M mc) (hn : s.more.length ≤ 16) :
    Calls Try.prog 70 #[.pointer (some ⟨F, 0, none⟩)] w fun e w' => e = .returned (.int .i64 (rv.beyond s)) ∧ w = w' := by
  have c2 := h.blk.get 2
  have c3 := h.blk.get 3
  simp only [List.getElem?_toArray, List.getElem?_cons_succ, List.getElem?_cons_zero] at c2 c3
  by_cases h0 : s.more.length = 0
  · have HE := Lib.hid (rv.beyond_nil h0)
    rw [h0] at c3
    clear h
    go_enter Try.func70, Try.ntmps70
    go_wp2
    go_ret
    exact ⟨by rw [HE.out]; rfl, rfl⟩
  · have HE := Lib.hid (rv.beyond_last (s := s) (by omega))
    obtain ⟨m, hm⟩ : ∃ m, s.more.length = m + 1 := ⟨s.more.length - 1, by omega⟩
    obtain ⟨bb, o, rfl, _, d1, d2⟩ := Rng.cells_at Rng.z h.more (k := m) (by omega)
    rw [hm] at c3 HE
    rw [show m + 1 - 1 = m by omega] at HE
    have hm1 : (((m + 1 : Nat) : Int)) - 1 = (m : Int) := by omega
    clear h
    generalize (s.more.getD m Rng.z).hi = y at *
    generalize (s.more.getD m Rng.z).lo = x at *
    have hm16 : m ≤ 16 := by omega
    clear h0 hm hn
    go_enter Try.func70, Try.ntmps70
    go_wp2
    go_ret
    exact ⟨by rw [HE.out]; rfl, rfl⟩

def rv.inB (r : Rng) (p : Int) : Bool := decide (r.lo ≤ p) && decide (p < r.hi)
theorem rv.inB_iff {r : Rng} {p : Int} : rv.inB r p = true ↔ had.inR r p := by unfold rv.inB had.inR; simp
set_option maxHeartbeats 400000 in
theorem recv_test (r : Rng) (fr i : Nat) (Bf Bi : Nat) (w : World) (hf : w.cell? ⟨Bf, 0, none⟩ = some (.int .i64 (fr : Int))) (hi : w.cell? ⟨Bi, 0, none⟩ = some (.int .i64 (i : Int))) (h1 : fr ≤ 2000000) (h2 : i ≤ 2000000) (h3 : Bf < w.heap.size) (h4 : Bi < w.heap.size) :
    Calls Try.prog 96 #[.agg #[.int .i64 r.lo, .int .i64 r.hi], .pointer (some ⟨Bf, 0, none⟩), .pointer (some ⟨Bi, 0, none⟩)] w fun e w' => e = .returned (.bool (rv.inB r ((fr + i : Nat) : Int))) ∧ Below w.heap.size w w' := by
  obtain ⟨x, y⟩ := r
  obtain ⟨p, hp⟩ : ∃ p : Nat, p = fr + i := ⟨_, rfl⟩
  have ep : (fr : Int) + (i : Int) = (p : Int) := by omega
  have hpb : p ≤ 4000000 := by omega
  rw [← hp]
  clear hp
  by_cases c1 : x ≤ (p : Int)
  · by_cases c2 : (p : Int) < y
    · have HE : Hid (rv.inB (⟨x, y⟩ : Rng) (p : Int) = true) := Lib.hid (by unfold rv.inB; simp [c1, c2])
      go_enter Try.func96, Try.ntmps96
      go_wp2
      go_ret
      exact ⟨by rw [HE.out]; rfl, (by repeat (first | (with_reducible exact Below.refl _ _) | (with_reducible assumption) | (with_reducible refine bset ?_ ?_ _) | (with_reducible refine balloc ?_ _) | (with_reducible refine Below.drew ?_) | (with_reducible refine bdrewN ?_ _) | (with_reducible refine bnext ?_ (by with_reducible assumption)) | exact Nat.le_refl _ | (simp; done) | omega | (simp; omega)))⟩
    · have HE : Hid (rv.inB (⟨x, y⟩ : Rng) (p : Int) = false) := Lib.hid (by unfold rv.inB; simp [c1]; omega)
      go_enter Try.func96, Try.ntmps96
      go_wp2
      go_ret
      exact ⟨by rw [HE.out]; rfl, (by repeat (first | (with_reducible exact Below.refl _ _) | (with_reducible assumption) | (with_reducible refine bset ?_ ?_ _) | (with_reducible refine balloc ?_ _) | (with_reducible refine Below.drew ?_) | (with_reducible refine bdrewN ?_ _) | (with_reducible refine bnext ?_ (by with_reducible assumption)) | exact Nat.le_refl _ | (simp; done) | omega | (simp; omega)))⟩
  · have HE : Hid (rv.inB (⟨x, y⟩ : Rng) (p : Int) = false) := Lib.hid (by unfold rv.inB; simp; omega)
    go_enter Try.func96, Try.ntmps96
    go_wp2
    go_ret
    exact ⟨by rw [HE.out]; rfl, (by repeat (first | (with_reducible exact Below.refl _ _) | (with_reducible assumption) | (with_reducible refine bset ?_ ?_ _) | (with_reducible refine balloc ?_ _) | (with_reducible refine Below.drew ?_) | (with_reducible refine bdrewN ?_ _) | (with_reducible refine bnext ?_ (by with_reducible assumption)) | exact Nat.le_refl _ | (simp; done) | omega | (simp; omega)))⟩
end Go.Proofs.Ytdldfllllgogoaa
