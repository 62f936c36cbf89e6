/- The walk of the law BucketPlays. No condition. -/
import Derived.Test.YtdjdjjbcmlnecaaBucket3
namespace Go.Proofs.Ytdjdjjbcmlnecaa
open Go.RowKit

set_option maxHeartbeats 400000 in
theorem bucket_Play_bad (r b : Int) (n c : Nat) (A : Option Addr) (w : World) (h : (r < 0 ∨ 1000 < r) ∨ (b < 0 ∨ 100000 < b)) :
    Calls Try.prog 33 #[.int .i64 r, .int .i64 b, .slice A n c] w fun e w' => e = .returned (.tuple #[.slice none 0 0, .int .i64 2]) ∧ w = w' := by
  go_enter Try.func33, Try.ntmps33
  go_wp2_with (go_at_call 40; refine (bucket_may_no _ _ h _).mono ?_; rintro e w' ⟨rfl, rfl⟩)
  go_ret2
  exact ⟨rfl, rfl⟩
set_option maxHeartbeats 400000 in
theorem bucket_Play_long (r b : Int) (h1 : 0 ≤ r) (h2 : r ≤ 1000) (h3 : 0 ≤ b) (h4 : b ≤ 100000) (n c : Nat) (A : Option Addr) (w : World) (hn : 300 < n) (hn2 : n ≤ 140737488351232) :
    Calls Try.prog 33 #[.int .i64 r, .int .i64 b, .slice A n c] w fun e w' => e = .returned (.tuple #[.slice none 0 0, .int .i64 1]) ∧ w = w' := by
  go_enter Try.func33, Try.ntmps33
  go_wp2_with (go_at_call 40; refine (bucket_may_yes _ _ h1 h2 h3 h4 _).mono ?_; rintro e w' ⟨rfl, rfl⟩)
  go_ret2
  exact ⟨rfl, rfl⟩
set_option maxRecDepth 100000 in
set_option maxHeartbeats 400000 in
theorem ref_Bucket_bad (r b : Int) (n c : Nat) (A : Option Addr) (w : World) (h : (r < 0 ∨ 1000 < r) ∨ (b < 0 ∨ 100000 < b)) :
    Calls Try.prog 34 #[.int .i64 r, .int .i64 b, .slice A n c] w fun e w' => e = .returned (.tuple #[.slice none 0 0, .int .i64 2]) ∧ w = w' := by
  by_cases c1 : 0 ≤ r
  · by_cases c2 : r ≤ 1000
    · by_cases c3 : 0 ≤ b
      · have c4 : 100000 < b := by omega
        clear h
        go_enter Try.func34, Try.ntmps34
        go_wp2
        go_ret2
        exact ⟨rfl, rfl⟩
      · clear h
        go_enter Try.func34, Try.ntmps34
        go_wp2
        go_ret2
        exact ⟨rfl, rfl⟩
    · clear h
      go_enter Try.func34, Try.ntmps34
      go_wp2
      go_ret2
      exact ⟨rfl, rfl⟩
  · clear h
    go_enter Try.func34, Try.ntmps34
    go_wp2
    go_ret2
    exact ⟨rfl, rfl⟩
set_option maxRecDepth 100000 in
set_option maxHeartbeats 400000 in
theorem ref_Bucket_long (r b : Int) (h1 : 0 ≤ r) (h2 : r ≤ 1000) (h3 : 0 ≤ b) (h4 : b ≤ 100000) (n c : Nat) (A : Option Addr) (w : World) (hn : 300 < n) (hn2 : n ≤ 140737488351232) :
    Calls Try.prog 34 #[.int .i64 r, .int .i64 b, .slice A n c] w fun e w' => e = .returned (.tuple #[.slice none 0 0, .int .i64 1]) ∧ w = w' := by
  go_enter Try.func34, Try.ntmps34
  go_wp2
  go_ret2
  exact ⟨rfl, rfl⟩

/-- an answer: a list of bools of the call's own, and an error number -/
def BktRes (L : List Bool) (er : Int) (w : World) (e : Ending) (w' : World) : Prop :=
  ∃ A c, e = .returned (.tuple #[.slice A L.length c, .int .i64 er]) ∧ Own w' w.heap.size 4 1 A L.length c (L.map Value.bool) ∧ Below w.heap.size w w'
theorem BktRes.none_ {er : Int} {w w' : World} {e : Ending} (h : e = .returned (.tuple #[.slice none 0 0, .int .i64 er])) (hb : Below w.heap.size w w') : BktRes [] er w e w' := ⟨none, 0, h, Own.nil _ _ _ _, hb⟩

theorem bkt_both (r b : Int) (l : List Packet) (A : Option Addr) (c : Nat) (hn : l.length ≤ 140737488351232) : ∃ L er, L.length ≤ 300 ∧
    (∀ w : World, SlRep Packet.rep w (· < w.heap.size) l A c → Calls Try.prog 33 #[.int .i64 r, .int .i64 b, .slice A l.length c] w (BktRes L er w)) ∧
    (∀ w : World, SlRep Packet.rep w (· < w.heap.size) l A c → Calls Try.prog 34 #[.int .i64 r, .int .i64 b, .slice A l.length c] w (BktRes L er w)) := by
  by_cases h : (r < 0 ∨ 1000 < r) ∨ (b < 0 ∨ 100000 < b)
  · exact ⟨[], 2, by simp, fun w _ => (bucket_Play_bad r b _ c A w h).mono fun e w' ⟨he, hw⟩ => BktRes.none_ he (hw ▸ Below.refl _ _), fun w _ => (ref_Bucket_bad r b _ c A w h).mono fun e w' ⟨he, hw⟩ => BktRes.none_ he (hw ▸ Below.refl _ _)⟩
  · have h1 : 0 ≤ r := by omega
    have h2 : r ≤ 1000 := by omega
    have h3 : 0 ≤ b := by omega
    have h4 : b ≤ 100000 := by omega
    by_cases hs : l.length ≤ 300
    · obtain ⟨m, hm, hv, hver⟩ := bkt.verdict_of l
      have k1 := fun w hl => bucket_Play_any r b h1 h2 h3 h4 l A c w hl hs m hm hv hver
      have k2 := fun w hl => ref_Bucket_any r b h1 h2 h3 h4 l A c w hl hs m hm hv hver
      cases hver with
      | well h =>
        refine ⟨bkt.passTo r b l l.length, 0, by rw [bkt.passTo_length]; exact hs, fun w hl => (k1 w hl).mono fun e w' hp => ?_, fun w hl => (k2 w hl).mono fun e w' hp => ?_⟩
        all_goals
          obtain ⟨A', c', he, ho⟩ := hp.2.1 h
          refine ⟨A', c', ?_, ?_, hp.1⟩
          · rw [bkt.passTo_length]; exact he
          · rw [bkt.passTo_length]; exact ho
      | range h h1' => exact ⟨[], 2, by simp, fun w hl => (k1 w hl).mono fun e w' hp => BktRes.none_ (hp.2.2.1 h h1') hp.1, fun w hl => (k2 w hl).mono fun e w' hp => BktRes.none_ (hp.2.2.1 h h1') hp.1⟩
      | old h h1' h2' => exact ⟨[], 17, by simp, fun w hl => (k1 w hl).mono fun e w' hp => BktRes.none_ (hp.2.2.2 h h1' h2') hp.1, fun w hl => (k2 w hl).mono fun e w' hp => BktRes.none_ (hp.2.2.2 h h1' h2') hp.1⟩
    · exact ⟨[], 1, by simp, fun w _ => (bucket_Play_long r b h1 h2 h3 h4 _ c A w (by omega) hn).mono fun e w' ⟨he, hw⟩ => BktRes.none_ he (hw ▸ Below.refl _ _), fun w _ => (ref_Bucket_long r b h1 h2 h3 h4 _ c A w (by omega) hn).mono fun e w' ⟨he, hw⟩ => BktRes.none_ he (hw ▸ Below.refl _ _)⟩

set_option maxHeartbeats 1000000 in
theorem lawBucketPlays_walk (r : Int) (_ : IntOk r) (b : Int) (_ : IntOk b) (l : List Packet) (A : Option Addr) (c : Nat) (w : World) (hl : SlRep Packet.rep w (· < w.heap.size) l A c) (hok : AllOk 16 Packet.ok l) :
    Calls Try.prog 12 #[.int .i64 r, .int .i64 b, .slice A l.length c] w fun e w' => e = .returned (.bool true) ∧ Below w.heap.size w w' := by
  have hn : l.length ≤ 140737488351232 := by have := hok.2; omega
  clear hok
  obtain ⟨L, er, hL, k1, k2⟩ := bkt_both r b l A c hn
  have HL := Lib.hid hl
  have K1 := Lib.hid k1
  have K2 := Lib.hid k2
  clear hl k1 k2
  go_enter Try.func12, Try.ntmps12
  go_wp2_with fail
  refine (K1.out w HL.out).mono ?_
  rintro e w1 ⟨A1, c1, rfl, ho1, hb1⟩
  have HO1 := Lib.hid ho1
  clear ho1
  go_wp2_with fail
  refine (K2.out w1 (HL.out.next hb1)).mono ?_
  rintro e w2 ⟨A2, c2, rfl, ho2, hb2⟩
  have HO2 := Lib.hid ho2
  have HO1' := Lib.hid (HO1.out.next hb2)
  clear ho2 HO1 K1 K2 HL
  have hb : Below w.heap.size w w2 := bnext hb1 hb2
  clear hb1 hb2
  go_wp2
  go_loopw [11] (fun i wr => ∃ k m : Nat, k ≤ L.length ∧ i = .int .i64 k ∧ wr = w2.drewN m) (fun i _ => L.length - (intOf i).toNat)
  case atStart => exact ⟨0, 0, by omega, rfl, rfl⟩
  case round =>
    obtain ⟨k, m, hk, rfl, rfl⟩ := hrel
    by_cases hlt : k < L.length
    · have hx : L[k]? = some (L[k]'hlt) := List.getElem?_eq_getElem hlt
      obtain ⟨g, rfl, _, _, hc1⟩ := bool_at HO1'.out hx
      obtain ⟨g', rfl, _, _, hc2⟩ := bool_at HO2.out hx
      have hlt' : (k : Int) < (L.length : Int) := by omega
      clear hx
      generalize L[k]'hlt = x at *
      go_wp2
      go_quiet (fail)
      go_wp2
      go_roundw
      case rel => exact ⟨k + 1, _, by omega, by go_num, rfl⟩
      case measure => simp [intOf]; omega
    · go_wp2
      go_ret
      exact ⟨rfl, (by repeat (first | (with_reducible exact Below.refl _ _) | (with_reducible assumption) | (with_reducible refine bset ?_ ?_ _) | (with_reducible refine balloc ?_ _) | (with_reducible refine Below.drew ?_) | (with_reducible refine bdrewN ?_ _) | (with_reducible refine bnext ?_ (by with_reducible assumption)) | exact Nat.le_refl _ | (simp; done) | omega | (simp; omega)))⟩
end Go.Proofs.Ytdjdjjbcmlnecaa
