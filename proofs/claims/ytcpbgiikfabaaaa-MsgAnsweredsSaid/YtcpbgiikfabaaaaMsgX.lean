/- Package ref: a reader of bytes. No condition. -/
import Derived.Test.YtcpbgiikfabaaaaMsgW
namespace Go.Proofs.Ytcpbgiikfabaaaa
open Go.RowKit

/-- a reader in block R -/
structure mg.RdAt (w : World) (R : Nat) (S : Nat → Prop) (st : mg.Rd) (A : Option Addr) (c : Nat) : Prop where
  c0 : w.cell? ⟨R, 0, none⟩ = some (.slice A st.b.length c)
  c1 : w.cell? ⟨R, 1, none⟩ = some (.bool st.short)
  fz : ∀ j, w.frozen? ⟨R, j, none⟩ = false
  data : SlRep Rep.u8 w S st.b A c
def mg.NumRes (R : Nat) (S : Nat → Prop) (st : mg.Rd) (v : Value) (w : World) (e : Ending) (w' : World) : Prop :=
  ∃ A' c', e = .returned v ∧ mg.RdAt w' R S st A' c' ∧ w.grownBy w' (some R)
theorem mg.RdAt.set0 {w : World} {R : Nat} {S : Nat → Prop} {st st' : mg.Rd} {A A' : Option Addr} {c c' : Nat} (h : mg.RdAt w R S st A c) (hS : ∀ k, S k → k ≠ R) (hs : st'.short = st.short) (hd : SlRep Rep.u8 w S st'.b A' c') : mg.RdAt (w.setCell ⟨R, 0, none⟩ (.slice A' st'.b.length c')) R S st' A' c' :=
  ⟨World.cell?_setCell_same' w _ _ (by rw [h.c0]; rfl), by rw [mg.set_other _ (by intro e; cases e), hs]; exact h.c1, fun j => by rw [World.frozen?_setCell]; exact h.fz j, hd.keep fun k hk => ⟨hk, mg.heap_set (hS k hk)⟩⟩
theorem mg.RdAt.set1 {w : World} {R : Nat} {S : Nat → Prop} {st : mg.Rd} {A : Option Addr} {c : Nat} (h : mg.RdAt w R S st A c) (hS : ∀ k, S k → k ≠ R) (b : Bool) : mg.RdAt (w.setCell ⟨R, 1, none⟩ (.bool b)) R S ⟨st.b, b⟩ A c :=
  ⟨by rw [mg.set_other _ (by intro e; cases e)]; exact h.c0, World.cell?_setCell_same' w _ _ (by rw [h.c1]; rfl), fun j => by rw [World.frozen?_setCell]; exact h.fz j, h.data.keep fun k hk => ⟨hk, mg.heap_set (hS k hk)⟩⟩
theorem mg.grown_set {a w : World} {g : Nat} (h : a.grownBy w (some g)) (o : Nat) (u : Value) : a.grownBy (w.setCell ⟨g, o, none⟩ u) (some g) :=
  ⟨h.os, h.tape, h.output, by simpa [World.setCell] using h.size, fun i hi hne => (Below.heap_setCell w ⟨g, o, none⟩ u i (fun e => hne (by rw [e]))).trans (h.block i hi hne)⟩
theorem mg.NumRes.short {R : Nat} {S : Nat → Prop} {st : mg.Rd} {A : Option Addr} {c : Nat} {w : World} (h : mg.RdAt w R S st A c) (hS : ∀ k, S k → k ≠ R) (v : Value) : mg.NumRes R S ⟨[], true⟩ v w (.returned v) ((w.setCell ⟨R, 1, none⟩ (.bool true)).setCell ⟨R, 0, none⟩ (.slice none 0 0)) :=
  ⟨none, 0, rfl, (h.set1 hS true).set0 (st' := ⟨[], true⟩) hS rfl ⟨Nat.le_refl _, Nat.zero_le _, .inl rfl⟩, mg.grown_set (mg.grown_set (World.grownBy.refl w _) _ _) _ _⟩
theorem mg.NumRes.cut {R : Nat} {S : Nat → Prop} {st : mg.Rd} {A : Option Addr} {c : Nat} {w : World} (h : mg.RdAt w R S st A c) (hS : ∀ k, S k → k ≠ R) {f : Nat} (hf : f ≤ st.b.length) (v : Value) : mg.NumRes R S ⟨st.b.drop f, st.short⟩ v w (.returned v) (w.setCell ⟨R, 0, none⟩ (.slice (cutA A c f 1) (st.b.length - f) (c - f))) := by
  have h1 := h.set0 (st' := ⟨st.b.drop f, st.short⟩) hS rfl (h.data.drop hf)
  rw [List.length_drop] at h1
  exact ⟨_, _, rfl, h1, mg.grown_set (World.grownBy.refl w _) _ _⟩

set_option maxHeartbeats 1000000 in
theorem ref_num (R wide : Nat) (st : mg.Rd) (A : Option Addr) (c : Nat) (S : Nat → Prop) (w : World) (h : mg.RdAt w R S st A c) (hS : ∀ k, S k → k ≠ R) (hw : wide ≤ 4) :
    Calls Try.prog 28 #[.pointer (some ⟨R, 0, none⟩), .int .i64 wide] w (mg.NumRes R S (mg.rnum wide st).1 (.int .i64 (mg.rnum wide st).2) w) := by
  have H := Lib.hid h
  have HS := Lib.hid hS
  have c0 := h.c0
  have c1 := h.c1
  have fz := h.fz
  have hcap := h.data.1
  have hmax := h.data.2.1
  unfold maxLen at hmax
  clear h hS
  by_cases hlt : st.b.length < wide
  · have q := decide_eq_true hlt
    have HE : Hid (mg.rnum wide st = (⟨[], true⟩, 0)) := Lib.hid (by unfold mg.rnum; rw [if_pos hlt])
    rw [HE.out]
    clear hlt
    go_enter Try.func28, Try.ntmps28
    go_wp2
    go_ret
    exact mg.NumRes.short H.out HS.out _
  · have q := decide_eq_false hlt
    have HE : Hid (mg.rnum wide st = (⟨st.b.drop wide, st.short⟩, feed.be (st.b.take wide))) := Lib.hid (by unfold mg.rnum; rw [if_neg hlt])
    rw [HE.out]
    have hle : wide ≤ st.b.length := by omega
    have c2 := fun W => run_cut_l elemU8 A st.b.length c wide hle (wide : Int) rfl W
    clear hlt
    go_enter Try.func28, Try.ntmps28
    go_wp2
    go_loop [5, 6] (fun n i => ∃ k : Nat, k ≤ wide ∧ i = .int .i64 k ∧ n = .int .i64 (feed.be (st.b.take k))) (fun _ i => wide - (intOf i).toNat)
    case atStart => exact ⟨0, Nat.zero_le _, rfl, rfl⟩
    case round =>
      obtain ⟨k, hk, rfl, rfl⟩ := hrel
      by_cases hlt : k < wide
      · have hkl : k < st.b.length := by omega
        obtain ⟨bb, oo, hA, _, hc⟩ := u8_at H.out.data hkl
        subst hA
        have HX := Lib.hid (feed.be_take_succ st.b k hkl)
        have hb1 := feed.be_lt st.b k
        have hb2 : (256 : Nat) ^ k ≤ 256 ^ 3 := Nat.pow_le_pow_right (by omega) (by omega)
        have hb : (feed.be (st.b.take k) : Int) ≤ 16777216 := by omega
        have hx : ((st.b.getD k 0).toNat : Int) ≤ 255 := by have := (st.b.getD k 0).toNat_lt; omega
        clear hb1 hb2
        generalize feed.be (st.b.take k) = m at *
        generalize (st.b.getD k 0).toNat = x at *
        go_wp2
        go_round
        case rel => exact ⟨k + 1, by omega, by go_num, by rw [HX.out]; go_num⟩
        case measure => simp [intOf]; omega
      · obtain rfl : k = wide := by omega
        go_wp2
        go_ret
        exact mg.NumRes.cut H.out HS.out hle _
end Go.Proofs.Ytcpbgiikfabaaaa
