/- The walk of the law CongPlays. No condition. -/
import Derived.Test.YteeaklndkfjahaaCong3
namespace Go.Proofs.Yteeaklndkfjahaa
open Go.RowKit

set_option maxHeartbeats 400000 in
theorem cong_Play_long (n c : Nat) (A : Option Addr) (w : World) (hn : 300 < n) (hn2 : n ≤ 140737488351232) :
    Calls Try.prog 15 #[.slice A n c] w fun e w' => e = .returned (.tuple #[.slice none 0 0, .int .i64 1]) ∧ w = w' := by
  go_enter Try.func15, Try.ntmps15
  go_wp2
  go_ret2
  exact ⟨rfl, rfl⟩
set_option maxHeartbeats 400000 in
theorem ref_Cong_long (n c : Nat) (A : Option Addr) (w : World) (hn : 300 < n) (hn2 : n ≤ 140737488351232) :
    Calls Try.prog 16 #[.slice A n c] w fun e w' => e = .returned (.tuple #[.slice none 0 0, .int .i64 1]) ∧ w = w' := by
  go_enter Try.func16, Try.ntmps16
  go_wp2
  go_ret2
  exact ⟨rfl, rfl⟩

def CngRes (L : List Width) (er : Int) (w : World) (e : Ending) (w' : World) : Prop :=
  ∃ A c, e = .returned (.tuple #[.slice A L.length c, .int .i64 er]) ∧ Own w' w.heap.size 28 3 A L.length c (L.flatMap Width.cells) ∧ Below w.heap.size w w'
theorem CngRes.none_ {er : Int} {w w' : World} {e : Ending} (h : e = .returned (.tuple #[.slice none 0 0, .int .i64 er])) (hb : Below w.heap.size w w') : CngRes [] er w e w' := ⟨none, 0, h, Own.nil _ _ _ _, hb⟩

theorem cng_both (l : List Signal) (A : Option Addr) (c : Nat) (hn : l.length ≤ 140737488351232) : ∃ L er, L.length ≤ 300 ∧
    (∀ w : World, SlRep Signal.rep w (· < w.heap.size) l A c → Calls Try.prog 15 #[.slice A l.length c] w (CngRes L er w)) ∧
    (∀ w : World, SlRep Signal.rep w (· < w.heap.size) l A c → Calls Try.prog 16 #[.slice A l.length c] w (CngRes L er w)) := by
  by_cases hs : l.length ≤ 300
  · obtain ⟨m, hm, hv, hver⟩ := cng.verdict_of l
    have k1 := fun w hl => cong_Play_any l A c w hl hs m hm hv hver
    have k2 := fun w hl => ref_Cong_any l A c w hl hs m hm hv hver
    cases hver with
    | well h =>
      refine ⟨cng.outTo l l.length, 0, by rw [cng.outTo_length]; exact hs, fun w hl => (k1 w hl).mono fun e w' hp => ?_, fun w hl => (k2 w hl).mono fun e w' hp => ?_⟩
      all_goals
        obtain ⟨A', c', he, ho⟩ := hp.2.1 h
        refine ⟨A', c', ?_, ?_, hp.1⟩
        · rw [cng.outTo_length]; exact he
        · rw [cng.outTo_length]; exact ho
    | range h h1' h2' => exact ⟨[], 2, by simp, fun w hl => (k1 w hl).mono fun e w' hp => CngRes.none_ (hp.2.2.1 h h1' h2') hp.1, fun w hl => (k2 w hl).mono fun e w' hp => CngRes.none_ (hp.2.2.1 h h1' h2') hp.1⟩
    | kind h h1' => exact ⟨[], 3, by simp, fun w hl => (k1 w hl).mono fun e w' hp => CngRes.none_ (hp.2.2.2 h h1') hp.1, fun w hl => (k2 w hl).mono fun e w' hp => CngRes.none_ (hp.2.2.2 h h1') hp.1⟩
  · exact ⟨[], 1, by simp, fun w _ => (cong_Play_long _ c A w (by omega) hn).mono fun e w' ⟨he, hw⟩ => CngRes.none_ he (hw ▸ Below.refl _ _), fun w _ => (ref_Cong_long _ c A w (by omega) hn).mono fun e w' ⟨he, hw⟩ => CngRes.none_ he (hw ▸ Below.refl _ _)⟩

theorem Own.width {w : World} {base : Nat} {e : TypeId} {A : Option Addr} {n c : Nat} {l : List Width} (h : Own w base e 3 A n c (l.flatMap Width.cells)) : n = l.length ∧ SlRep Width.rep w (fun k => base ≤ k ∧ k < w.heap.size) l A c :=
  Own.flat Width.cells rfl (fun S a => Width.enc w S a) (by decide) h

set_option maxHeartbeats 1000000 in
theorem lawCongPlays_walk (l : List Signal) (A : Option Addr) (c : Nat) (w : World) (hl : SlRep Signal.rep w (· < w.heap.size) l A c) (hok : AllOk 16 Signal.ok l) :
    Calls Try.prog 3 #[.slice A l.length c] w fun e w' => e = .returned (.bool true) ∧ Below w.heap.size w w' := by
  have hn : l.length ≤ 140737488351232 := by have := hok.2; omega
  clear hok
  obtain ⟨L, er, hL, k1, k2⟩ := cng_both l A c hn
  have HL := Lib.hid hl
  have K1 := Lib.hid k1
  have K2 := Lib.hid k2
  clear hl k1 k2
  go_enter Try.func3, Try.ntmps3
  go_wp2_with fail
  refine (K1.out w HL.out).mono ?_
  rintro e w1 ⟨A1, c1, rfl, ho1, hb1⟩
  have HO1 := Lib.hid ho1
  clear ho1
  go_wp2_with fail
  refine (K2.out w1 (HL.out.next hb1)).mono ?_
  rintro e w2 ⟨A2, c2, rfl, ho2, hb2⟩
  have HR2 := Lib.hid ho2.width.2
  have HR1 := Lib.hid (HO1.out.next hb2).width.2
  clear ho2 HO1 K1 K2 HL
  have hb : Below w.heap.size w w2 := bnext hb1 hb2
  clear hb1 hb2
  go_wp2
  go_loopw [7] (fun i wr => ∃ k m : Nat, k ≤ L.length ∧ i = .int .i64 k ∧ wr = w2.drewN m) (fun i _ => L.length - (intOf i).toNat)
  case atStart => exact ⟨0, 0, by omega, rfl, rfl⟩
  case round =>
    obtain ⟨k, m, hk, rfl, rfl⟩ := hrel
    by_cases hlt : k < L.length
    · obtain ⟨b, o, rfl, _, hc1, hc2, hc3⟩ := Width.cells_at ⟨0, 0, 0⟩ HR1.out hlt
      obtain ⟨b', o', rfl, _, hd1, hd2, hd3⟩ := Width.cells_at ⟨0, 0, 0⟩ HR2.out hlt
      have hlt' : (k : Int) < (L.length : Int) := by omega
      generalize (L.getD k ⟨0, 0, 0⟩).window = x at *
      generalize (L.getD k ⟨0, 0, 0⟩).slow = y at *
      generalize (L.getD k ⟨0, 0, 0⟩).again = z at *
      go_wp2
      go_quiet (fail)
      go_wp2
      go_roundw
      case rel => exact ⟨k + 1, _, by omega, by go_num, rfl⟩
      case measure => simp [intOf]; omega
    · go_wp2
      go_ret
      exact ⟨rfl, (by repeat (first | (with_reducible exact Below.refl _ _) | (with_reducible assumption) | (with_reducible refine bset ?_ ?_ _) | (with_reducible refine balloc ?_ _) | (with_reducible refine Below.drew ?_) | (with_reducible refine bdrewN ?_ _) | (with_reducible refine bnext ?_ (by with_reducible assumption)) | exact Nat.le_refl _ | (simp; done) | omega | (simp; omega)))⟩
end Go.Proofs.Yteeaklndkfjahaa
