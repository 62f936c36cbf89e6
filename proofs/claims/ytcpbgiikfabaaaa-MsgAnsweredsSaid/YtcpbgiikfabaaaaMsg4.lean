/- Package msg: a part as bytes. No condition. -/
import Derived.Test.YtcpbgiikfabaaaaMsg3
import Derived.Lib.ConvBytes
namespace Go.Proofs.Ytcpbgiikfabaaaa
open Go.RowKit

theorem mg.be_len (n : Int) (k : Nat) : (beBytes n k).length = k := by
  induction k with
  | zero => rfl
  | succ k ih => simp [beBytes, ih]
/-- bytes put behind a row of bytes of the call's own -/
def mg.PutRes (base : Nat) (xs : List UInt8) (l : List UInt8) (w : World) (e : Ending) (w' : World) : Prop :=
  ∃ A c, e = .returned (.slice A (xs ++ l).length c) ∧ Own w' base 5 1 A (xs ++ l).length c ((xs ++ l).map u8v) ∧ Below base w w'

set_option maxHeartbeats 1000000 in
theorem put_num (B o wide : Nat) (hw : wide ≤ 4) (n : Int) (base : Nat) (Ab : Option Addr) (cb : Nat) (xs : List UInt8) (w : World) (h0 : 0 ≤ n) (h1 : n ≤ 9223372036854775807) (hc : w.cell? ⟨B, o, none⟩ = some (.int .i64 n)) (ho : Own w base 5 1 Ab xs.length cb (xs.map u8v)) (hb : base ≤ w.heap.size) (hx : xs.length ≤ 1048576) :
    Calls Try.prog 22 #[.agg #[.int .i64 wide, .pointer (some ⟨B, o, none⟩), .pointer none, .pointer none], .slice Ab xs.length cb] w (mg.PutRes base xs (beBytes n wide) w) := by
  have hB := World.block_lt_of_cell? w _ hc
  have hca : ∀ x m, ((w.alloc x).drewN m).cell? ⟨B, o, none⟩ = some (.int .i64 n) := fun x m => ((bdrewN (balloc (bself w) x) m).cell (p := ⟨B, o, none⟩) hB).trans hc
  have HO := Lib.hid ho
  clear ho
  go_enter Try.func22, Try.ntmps22
  go_wp2
  go_region_with (go_at_call 39; refine (frame_Put base Ab xs.length cb (xs.map u8v) wide n _ (by first | exact HO.out.alloc _ | exact (HO.out.alloc _).drew) (by simp; omega) (by omega) h0 h1 (by omega)).mono ?_; rintro e w2 ⟨A2, c2, rfl, ho2, hg2⟩; have HO2 := Lib.hid ho2; have HG2 := Lib.hid hg2; clear ho2 hg2)
  all_goals
    go_wp2
    go_ret
    have hle : (xs ++ beBytes n wide).length = xs.length + wide := by rw [List.length_append, mg.be_len]
    have hb2 : Below base w w2 := (by
      have h := HG2.out.below (B := base) (by first | (simp; done) | (simp; omega)) (fun k hk => (HO.out.lt k hk).1)
      first
        | exact ((Below.refl base w).alloc hb _).trans h
        | exact ((Below.refl base w).alloc hb _).drew.trans h)
    exact ⟨A2, c2, by rw [hle]; rfl, by rw [hle, List.map_append]; exact HO2.out, hb2⟩
theorem mg.cells_block {w w' : World} {A : Option Addr} {xs : List Value} (h : Cells w A xs) (hb : ∀ k, blkOf A = some k → w'.heap[k]? = w.heap[k]?) : Cells w' A xs := by
  rcases h with h | ⟨b, o, rfl, h⟩
  · exact .inl h
  · exact .inr ⟨b, o, rfl, fun j u hu => by
      rw [World.cell?_of_block (a := ⟨b, o + j, none⟩) (hb b rfl)]
      exact h j u hu⟩
theorem mg.u8_cells {w : World} {S : Nat → Prop} {l : List UInt8} {A : Option Addr} {c : Nat} (h : SlRep Rep.u8 w S l A c) : Cells w A (l.map u8v) := by
  rcases Nat.eq_zero_or_pos l.length with h0 | h0
  · rw [List.eq_nil_of_length_eq_zero h0]; exact .inl rfl
  · obtain ⟨b, o, rfl, _, _⟩ := u8_at h h0
    refine .inr ⟨b, o, rfl, fun j u hu => ?_⟩
    rw [List.getElem?_map] at hu
    cases hj : l[j]? with
    | none => rw [hj] at hu; cases hu
    | some x =>
      rw [hj] at hu
      cases hu
      obtain ⟨b', o', e1, _, hc⟩ := u8_at h (List.getElem?_eq_some_iff.1 hj).1
      cases e1
      rw [hc, List.getD_eq_getElem?_getD, hj]
      rfl
theorem mg.put_end {base : Nat} {xs ys l : List UInt8} {w w2 w3 : World} {A2 A3 : Option Addr} {n3 c3 : Nat} (hn : n3 = (xs ++ (ys ++ l)).length) (hb2 : Below base w w2) (hg : Grew w2 w3 A2 A3) (hA : ∀ k, blkOf A2 = some k → base ≤ k) (hbs : base ≤ w2.heap.size)
    (ho : Own w3 base 5 1 A3 n3 c3 ((xs.map u8v ++ ys.map u8v) ++ l.map u8v)) : mg.PutRes base xs (ys ++ l) w (.returned (.slice A3 n3 c3)) w3 := by
  subst hn
  refine ⟨A3, c3, rfl, ?_, hb2.trans (hg.below hbs hA)⟩
  rw [show (xs ++ (ys ++ l)).map u8v = (xs.map u8v ++ ys.map u8v) ++ l.map u8v by simp]
  exact ho
theorem conv_bytes (l : List UInt8) (W : World) : ∃ c W', (convert 9 22 (.string (strOf l))).run Try.prog W = .ok (.slice (some ⟨W.heap.size, 0, none⟩) l.length c) W' ∧ Below W.heap.size W W' ∧ Cells W' (some ⟨W.heap.size, 0, none⟩) (l.map u8v) ∧ W.heap.size < W'.heap.size := by
  refine ⟨grownCap W l.length 0 5, Lib.bytesWorld W 5 (strOf l), ?_, ?_, ?_, ?_⟩
  · have h := Lib.run_convert_string_bytes (P := Try.prog) W 9 22 5 (strOf l) Try.underlying9 Try.underlying22 Try.underlying5
    rw [strOf_size] at h
    exact h
  · exact ⟨rfl, rfl, rfl, by rw [Lib.bytesWorld_size]; omega, fun j hj => Lib.bytesWorld_at_old W _ _ j hj⟩
  · refine .inr ⟨W.heap.size, 0, rfl, fun j u hu => ?_⟩
    rw [List.getElem?_map] at hu
    cases hj : l[j]? with
    | none => rw [hj] at hu; cases hu
    | some x =>
      rw [hj] at hu
      cases hu
      have hlt : j < l.length := (List.getElem?_eq_some_iff.1 hj).1
      rw [Nat.zero_add, Lib.bytesWorld_cell W _ _ j (by rw [strOf_size]; exact hlt)]
      have e1 : (strOf l).data.toList = l := by simp [strOf]
      rw [e1, List.getD_eq_getElem?_getD, hj]
      rfl
  · rw [Lib.bytesWorld_size]; omega
set_option maxHeartbeats 2000000 in
theorem put_text (B o : Nat) (l : List UInt8) (base : Nat) (Ab : Option Addr) (cb : Nat) (xs : List UInt8) (w : World) (hc : w.cell? ⟨B, o, none⟩ = some (.string (strOf l))) (ho : Own w base 5 1 Ab xs.length cb (xs.map u8v)) (hb : base ≤ w.heap.size) (hx : xs.length ≤ 1048576) (hl : l.length ≤ 1000) :
    Calls Try.prog 22 #[.agg #[.int .i64 0, .pointer none, .pointer (some ⟨B, o, none⟩), .pointer none], .slice Ab xs.length cb] w (mg.PutRes base xs (beBytes (l.length : Int) 2 ++ l) w) := by
  have hB := World.block_lt_of_cell? w _ hc
  have hca : ∀ x m, ((w.alloc x).drewN m).cell? ⟨B, o, none⟩ = some (.string (strOf l)) := fun x m => ((bdrewN (balloc (bself w) x) m).cell (p := ⟨B, o, none⟩) hB).trans hc
  have HO := Lib.hid ho
  clear ho
  obtain ⟨c5, W5, hcv, hb5, hcl5, hs5⟩ := conv_bytes l (w.alloc (.cells #[.int .i64 0, .pointer none, .pointer (some ⟨B, o, none⟩), .pointer none] 50))
  rw [World.size_alloc] at hcv hcl5 hs5
  have HC5 := Lib.hid hcl5
  have HB5 := Lib.hid hb5
  have HO5 := Lib.hid ((HO.out.alloc (.cells #[.int .i64 0, .pointer none, .pointer (some ⟨B, o, none⟩), .pointer none] 50)).next hb5)
  have hz5 : base ≤ W5.heap.size := by omega
  clear hcl5 hb5
  go_enter Try.func22, Try.ntmps22
  go_wp2_with (first
    | (go_at_call 39; refine (frame_Put base Ab xs.length cb (xs.map u8v) 2 (l.length : Int) _ HO5.out hz5 (by omega) (by omega) (by omega) (by omega)).mono ?_; rintro e w2 ⟨A2, c2, rfl, ho2, hg2⟩; have HO2 := Lib.hid ho2; have HG2 := Lib.hid hg2; have hs2 := hg2.grown.size; clear ho2 hg2)
    | (at_builtin; refine wp_app _ rfl _ _ _ rfl elemU8 base A2 (xs.length + 2) c2 _ rfl HO2.out (some ⟨w.heap.size + 1, 0, none⟩) l.length c5 (l.map u8v) rfl (by simp) (mg.cells_block HC5.out (fun k hk => (Option.some.inj hk) ▸ HG2.out.grown.block (w.heap.size + 1) hs5 (fun e => absurd (HO.out.lt _ e.symm).2 (by omega)))) (oneCell_u8 l) (by omega) (by unfold maxLen; omega) (by omega) ?_; intro A3 c3 w3 ho3 hg3; have HO3 := Lib.hid ho3; have HG3 := Lib.hid hg3; clear ho3 hg3)
    | fail)
  go_ret
  have hbl : Below base w w2 := (((Below.refl base w).alloc hb _).trans (HB5.out.mono (by first | (simp; done) | (simp; omega)))).trans (HG2.out.below hz5 (fun k hk => (HO.out.lt k hk).1))
  exact mg.put_end (by simp [mg.be_len]; omega) hbl HG3.out (fun k hk => (HO2.out.lt k hk).1) (by omega) HO3.out
set_option maxHeartbeats 2000000 in
theorem put_data (B o : Nat) (l : List UInt8) (A : Option Addr) (c base : Nat) (Ab : Option Addr) (cb : Nat) (xs : List UInt8) (w : World) (hc : w.cell? ⟨B, o, none⟩ = some (.slice A l.length c)) (hd : SlRep Rep.u8 w (· < base) l A c) (ho : Own w base 5 1 Ab xs.length cb (xs.map u8v)) (hb : base ≤ w.heap.size) (hx : xs.length ≤ 1048576) (hl : l.length ≤ 1000) :
    Calls Try.prog 22 #[.agg #[.int .i64 0, .pointer none, .pointer none, .pointer (some ⟨B, o, none⟩)], .slice Ab xs.length cb] w (mg.PutRes base xs (beBytes (l.length : Int) 2 ++ l) w) := by
  have hB := World.block_lt_of_cell? w _ hc
  have hca : ∀ x m, ((w.alloc x).drewN m).cell? ⟨B, o, none⟩ = some (.slice A l.length c) := fun x m => ((bdrewN (balloc (bself w) x) m).cell (p := ⟨B, o, none⟩) hB).trans hc
  have HO := Lib.hid ho
  have HD := Lib.hid (show ∀ w', Below base w w' → Cells w' A (l.map u8v) from fun w' h => mg.u8_cells (hd.keep (S' := (· < base)) fun k hk => ⟨hk, h.block k hk⟩))
  clear ho hd
  go_enter Try.func22, Try.ntmps22
  go_wp2_with (first
    | (go_at_call 39; refine (frame_Put base Ab xs.length cb (xs.map u8v) 2 (l.length : Int) _ (HO.out.alloc _) (by first | (simp; done) | (simp; omega)) (by omega) (by omega) (by omega) (by omega)).mono ?_; rintro e w2 ⟨A2, c2, rfl, ho2, hg2⟩; have HO2 := Lib.hid ho2; have HG2 := Lib.hid hg2; have hs2 := hg2.grown.size; have hb2 := ((Below.refl base w).alloc hb _).trans (hg2.below (by first | (simp; done) | (simp; omega)) (fun k hk => (HO.out.lt k hk).1)); have HB2 := Lib.hid hb2; clear ho2 hg2 hb2)
    | (at_builtin; refine wp_app _ rfl _ _ _ rfl elemU8 base A2 (xs.length + 2) c2 _ rfl HO2.out A l.length c (l.map u8v) rfl (by simp) (HD.out _ HB2.out) (oneCell_u8 l) (by omega) (by unfold maxLen; omega) (by have := HB2.out.size; omega) ?_; intro A3 c3 w3 ho3 hg3; have HO3 := Lib.hid ho3; have HG3 := Lib.hid hg3; clear ho3 hg3)
    | fail)
  go_ret
  exact mg.put_end (by simp [mg.be_len]; omega) HB2.out HG3.out (fun k hk => (HO2.out.lt k hk).1) (by have := HB2.out.size; omega) HO3.out
end Go.Proofs.Ytcpbgiikfabaaaa
