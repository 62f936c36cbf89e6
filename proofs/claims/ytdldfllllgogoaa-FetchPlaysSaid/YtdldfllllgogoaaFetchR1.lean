/- Package ref: FetchPlayed's inner function. No condition. -/
import Derived.Test.YtdldfllllgogoaaFetch9
import Derived.Test.YtdldfllllgogoaaMapV
namespace Go.Proofs.Ytdldfllllgogoaa
open Go.RowKit
set_option linter.unusedSimpArgs false

/-- the reference's boxes, from block B on -/
structure RefAt (w : World) (B : Nat) (r : ft.Ref) (A : Option Addr) (c n : Nat) : Prop where
  out : Own w B 33 2 A r.out.length c (wantCells r.out)
  b0 : BlkA w B 27 #[.slice A r.out.length c]
  b2 : BlkA w (B + 2) 68 #[.map (some (B + 1))]
  map : ∃ f, MapV w Try.prog 3 (B + 1) n (mapI f) ∧ ∀ p : Int, (f p).getD (.int .u8 0) = .int .u8 ((r.byte p).toNat : Int)
  b3 : BlkA w (B + 3) 3 #[.int .i64 r.front]
  b4 : BlkA w (B + 4) 3 #[.int .i64 r.end_]
theorem RefAt.stays {w w' : World} {B : Nat} {r : ft.Ref} {A : Option Addr} {c n : Nat} {No : Nat → Prop} (h : RefAt w B r A c n) (hs : Stays w w' No) (h0 : ∀ k, B ≤ k → k ≤ B + 4 → ¬ No k) (hA : ∀ k, blkOf A = some k → ¬ No k) : RefAt w' B r A c n where
  out := h.out.stays hs hA
  b0 := h.b0.stays hs (h0 _ (by omega) (by omega))
  b2 := h.b2.stays hs (h0 _ (by omega) (by omega))
  map := let ⟨f, h1, h2⟩ := h.map; ⟨f, h1.stays hs (h0 _ (by omega) (by omega)), h2⟩
  b3 := h.b3.stays hs (h0 _ (by omega) (by omega))
  b4 := h.b4.stays hs (h0 _ (by omega) (by omega))
theorem RefAt.next {w w' : World} {B : Nat} {r : ft.Ref} {A : Option Addr} {c n : Nat} (h : RefAt w B r A c n) (hb : Below w.heap.size w w') : RefAt w' B r A c n :=
  h.stays (Stays.of_below hb (fun _ => False)) (fun _ _ _ => id) (fun _ _ => id)
theorem RefAt.lt {w : World} {B : Nat} {r : ft.Ref} {A : Option Addr} {c n : Nat} (h : RefAt w B r A c n) : B + 4 < w.heap.size := h.b4.lt
theorem NexAt.next {w w' : World} {B N : Nat} {l : List Want} {A : Option Addr} {c : Nat} (h : NexAt w B N l A c) (hb : Below w.heap.size w w') : NexAt w' B N l A c := h.stays (Stays.of_below hb (fun _ => False)) id (fun _ _ => id)
theorem Stays.join {w w1 w2 : World} {N1 N2 : Nat → Prop} (h : Stays w w1 N1) (h2 : Stays w1 w2 N2) : Stays w w2 (fun k => N1 k ∨ N2 k) := (h.mono (No2 := fun k => N1 k ∨ N2 k) (fun _ _ h => .inl h)).trans h2 (fun _ _ h => .inr h)
theorem wantNeSl : (33 : TypeId) ≠ 27 := by decide
theorem wantNeMap : (33 : TypeId) ≠ 68 := by decide
theorem wantNeInt : (33 : TypeId) ≠ 3 := by decide
theorem u8NeInt : (5 : TypeId) ≠ 3 := by decide
theorem u8NeSl : (5 : TypeId) ≠ 27 := by decide
theorem u8NeMap : (5 : TypeId) ≠ 68 := by decide
/-- the row lies apart from the boxes -/
theorem RefAt.apart {w : World} {B : Nat} {r : ft.Ref} {A : Option Addr} {c n : Nat} (h : RefAt w B r A c n) {base : Nat} {T : TypeId} {size n' c' : Nat} {A' : Option Addr} {xs : List Value} (ho : Own w base T size A' n' c' xs) (h1 : T ≠ 27) (h2 : T ≠ 68) (h3 : T ≠ 3) : ∀ k, B ≤ k → k ≤ B + 4 → blkOf A' ≠ some k := by
  intro k hk1 hk2
  have : k = B ∨ k = B + 1 ∨ k = B + 2 ∨ k = B + 3 ∨ k = B + 4 := by omega
  rcases this with rfl | rfl | rfl | rfl | rfl
  · exact h.b0.apart ho h1
  · obtain ⟨f, hm, _⟩ := h.map
    exact hm.apart ho
  · exact h.b2.apart ho h2
  · exact h.b3.apart ho h3
  · exact h.b4.apart ho h3
theorem RefAt.push {w wa w2 : World} {B : Nat} {r : ft.Ref} {A A2 : Option Addr} {c c2 n : Nat} (h : RefAt w B r A c n) (x : Want) (hb : Below w.heap.size w wa) (hg : Grew wa w2 A A2) (ho : Own w2 B 33 2 A2 (r.out.length + 1) c2 (wantCells r.out ++ [.int .i64 x.at_, .int .i64 x.count])) :
    RefAt (w2.setCell ⟨B, 0, none⟩ (.slice A2 (r.out.length + 1) c2)) B { r with out := r.out ++ [x] } A2 c2 n ∧ Stays w (w2.setCell ⟨B, 0, none⟩ (.slice A2 (r.out.length + 1) c2)) (fun k => k = B ∨ blkOf A = some k) ∧ Anew w A2 A := by
  have hap := h.apart h.out wantNeSl wantNeMap wantNeInt
  have hs1 : Stays w w2 (fun k => blkOf A = some k) := (Stays.of_below hb (fun k => blkOf A = some k)).trans (Stays.grew hg) (fun k _ hk => hk)
  have hl : (r.out ++ [x]).length = r.out.length + 1 := by simp
  have h0 := h.b0.stays hs1 (hap B (by omega) (by omega))
  refine ⟨⟨?_, ?_, (h.b2.stays hs1 (hap _ (by omega) (by omega))).setCell (by show B ≠ B + 2; omega) _, ?_, (h.b3.stays hs1 (hap _ (by omega) (by omega))).setCell (by show B ≠ B + 3; omega) _, (h.b4.stays hs1 (hap _ (by omega) (by omega))).setCell (by show B ≠ B + 4; omega) _⟩, (hs1.mono (No2 := fun k => k = B ∨ blkOf A = some k) (fun k _ hk => .inr hk)).trans (Stays.set w2 B 0 _) (fun k _ hk => .inl hk), ?_⟩
  · show Own _ B _ 2 A2 (r.out ++ [x]).length c2 (wantCells (r.out ++ [x]))
    rw [hl, wantCells_app]
    exact ho.setCell (by exact h0.apart ho wantNeSl) _
  · show BlkA _ B _ #[.slice A2 (r.out ++ [x]).length c2]
    rw [hl]
    exact h0.set 0 _
  · obtain ⟨f, hm, hf⟩ := h.map
    exact ⟨f, (hm.stays hs1 (hap _ (by omega) (by omega))).setCell (by show B ≠ B + 1; omega) _, hf⟩
  · rcases hg.blk with e | ⟨k, h1, h2⟩
    · exact .inl e
    · exact .inr ⟨k, Nat.le_trans hb.size h1, h2⟩
theorem RefAt.setFront {w : World} {B : Nat} {r : ft.Ref} {A : Option Addr} {c n : Nat} (h : RefAt w B r A c n) (v : Int) : RefAt (w.setCell ⟨B + 3, 0, none⟩ (.int .i64 v)) B { r with front := v } A c n where
  out := h.out.setCell (by have := h.apart h.out wantNeSl wantNeMap wantNeInt (B + 3) (by omega) (by omega); exact this) _
  b0 := h.b0.setCell (by show B + 3 ≠ B; omega) _
  b2 := h.b2.setCell (by show B + 3 ≠ B + 2; omega) _
  map := let ⟨f, h1, h2⟩ := h.map; ⟨f, h1.setCell (by show B + 3 ≠ B + 1; omega) _, h2⟩
  b3 := h.b3.set 0 _
  b4 := h.b4.setCell (by show B + 3 ≠ B + 4; omega) _
theorem ft.fillR_go {s : ft.Ref} {l : List Want} (h : ft.mayR s = true) : ft.fillR (6 - s.out.length) s l = ft.fillR (6 - (s.out ++ [(⟨s.front, 100⟩ : Want)]).length) { s with out := s.out ++ [⟨s.front, 100⟩], front := s.front + 100 } (l ++ [⟨s.front, 100⟩]) := by
  have h1 : s.out.length < 6 := by
    unfold ft.mayR at h
    rw [Bool.and_eq_true] at h
    exact of_decide_eq_true h.1
  obtain ⟨m, hm⟩ : ∃ m, 6 - s.out.length = m + 1 := ⟨6 - s.out.length - 1, by omega⟩
  rw [hm, ft.fillR, if_pos h]
  congr 1
  rw [List.length_append, List.length_singleton]
  omega
theorem ft.fillR_stop {s : ft.Ref} {l : List Want} (h : ft.mayR s = false) : ∀ n, ft.fillR n s l = (s, l)
  | 0 => rfl
  | n + 1 => by rw [ft.fillR, h]; rfl
/-- what is known of the reference ahead of a call -/
structure ft.OkR (s : ft.Ref) : Prop where
  few : s.out.length ≤ 6
  f0 : 0 ≤ s.front ∧ s.front ≤ 2148
  e0 : 0 ≤ s.end_ ∧ (s.end_ ≤ 2148 ∨ s.end_ = ft.never)
theorem ft.OkR.step {s : ft.Ref} (h : ft.OkR s) (hm : ft.mayR s = true) : ft.OkR { s with out := s.out ++ [⟨s.front, 100⟩], front := s.front + 100 } := by
  unfold ft.mayR at hm
  simp only [Bool.and_eq_true, decide_eq_true_eq] at hm
  obtain ⟨m1, m2, m3⟩ := hm
  obtain ⟨h1, h2, h3⟩ := h
  exact ⟨by simp; omega, by show 0 ≤ s.front + 100 ∧ s.front + 100 ≤ 2148; omega, h3⟩
def OnResR (w : World) (B BN n : Nat) (r : ft.Ref) (l : List Want) (A A' : Option Addr) (e : Ending) (w' : World) : Prop :=
  ∃ A1 c1 cs, e = .returned (.agg cs.toArray) ∧ RefAt w' B (ft.onR r l).1 A1 c1 n ∧ Next.rep.rep w' (fun k => BN ≤ k ∧ k < w'.heap.size ∧ (w.heap.size ≤ k ∨ blkOf A' = some k) ∧ blkOf A1 ≠ some k) (ft.onR r l).2 cs ∧
    Stays w w' (fun k => k = B ∨ k = B + 3 ∨ blkOf A = some k ∨ blkOf A' = some k) ∧ Anew w A1 A

theorem NexOut.stays {w w' : World} {BN BE N : Nat} {x : Next} {A E : Option Addr} {c ec : Nat} {No : Nat → Prop} (h : NexOut w BN BE N x A c E ec) (hs : Stays w w' No) (h1 : ¬ No N) (h2 : ∀ k, blkOf A = some k → ¬ No k) (h3 : ∀ k, blkOf E = some k → ¬ No k) : NexOut w' BN BE N x A c E ec :=
  ⟨h.lo, h.box.stays hs h1, h.out.stays hs h2, h.data.stays hs h3⟩
theorem NexOut.next {w w' : World} {BN BE N : Nat} {x : Next} {A E : Option Addr} {c ec : Nat} (h : NexOut w BN BE N x A c E ec) (hb : Below w.heap.size w w') : NexOut w' BN BE N x A c E ec := h.stays (Stays.of_below hb (fun _ => False)) id (fun _ _ => id) (fun _ _ => id)
theorem NexOut.setDone {w : World} {BN BE N : Nat} {x : Next} {A E : Option Addr} {c ec : Nat} (h : NexOut w BN BE N x A c E ec) (d : Bool) : NexOut (w.setCell ⟨N, 2, none⟩ (.bool d)) BN BE N { x with done := d } A c E ec :=
  ⟨h.lo, h.box.set2 _, h.out.setCell (by exact h.box.apart h.out wantNeNext) _, h.data.setCell (by exact h.box.apart h.data u8NeNext) _⟩
theorem NexOut.pushByte {w wa w2 : World} {BN BE N : Nat} {x : Next} {A E E2 : Option Addr} {c ec ec2 : Nat} (h : NexOut w BN BE N x A c E ec) (b : UInt8) (hb : Below w.heap.size w wa) (hg : Grew wa w2 E E2) (ho : Own w2 BE 5 1 E2 (x.data.length + 1) ec2 ((x.data.map fun b => .int .u8 b.toNat) ++ [.int .u8 b.toNat])) :
    NexOut (w2.setCell ⟨N, 3, none⟩ (.slice E2 (x.data.length + 1) ec2)) BN BE N { x with data := x.data ++ [b] } A c E2 ec2 ∧ Stays w (w2.setCell ⟨N, 3, none⟩ (.slice E2 (x.data.length + 1) ec2)) (fun k => k = N ∨ blkOf E = some k) ∧ Anew w E2 E := by
  have hs1 : Stays w w2 (fun k => blkOf E = some k) := (Stays.of_below hb (fun k => blkOf E = some k)).trans (Stays.grew hg) (fun k _ hk => hk)
  have h0 := h.box.stays hs1 (h.box.apart h.data u8NeNext)
  have hl : (x.data ++ [b]).length = x.data.length + 1 := by simp
  refine ⟨⟨h.lo, ?_, (h.out.stays hs1 (fun k hk e => ?_)).setCell (by exact h.box.apart h.out wantNeNext) _, ?_⟩, (hs1.mono (No2 := fun k => k = N ∨ blkOf E = some k) (fun k _ hk => .inr hk)).trans (Stays.set w2 N 3 _) (fun k _ hk => .inl hk), ?_⟩
  · show Blk4 _ N _ _ _ _ (.slice E2 (x.data ++ [b]).length ec2)
    rw [hl]; exact h0.set3 _
  · rcases h.out.two h.data wantNeU8 with e2 | e2
    · rw [e2] at hk; cases hk
    · exact e2 (hk.trans e.symm)
  · show Own _ BE _ 1 E2 (x.data ++ [b]).length ec2 ((x.data ++ [b]).map fun b => .int .u8 b.toNat)
    rw [hl, List.map_append]
    exact ho.setCell (by exact h0.apart ho u8NeNext) _
  · rcases hg.blk with e | ⟨k, h1, h2⟩
    · exact .inl e
    · exact .inr ⟨k, Nat.le_trans hb.size h1, h2⟩
/-- within the inner function, behind its first loop -/
structure RefNow (w wx : World) (B BN n : Nat) (r : ft.Ref) (A1 : Option Addr) (c1 : Nat) (A2 : Option Addr) (c2 : Nat) (x : Next) (E : Option Addr) (ec : Nat) (No : Nat → Prop) : Prop where
  ref : RefAt wx B r A1 c1 n
  nex : NexOut wx BN w.heap.size w.heap.size x A2 c2 E ec
  res : Blk4 wx (w.heap.size + 1) 30 (.int .i64 0) (.slice none 0 0) (.bool false) (.slice none 0 0)
  stay : Stays w wx No
  lo : B + 4 < w.heap.size
theorem RefNow.touch {w wx wy : World} {B BN n : Nat} {r : ft.Ref} {A1 A2 E E2 : Option Addr} {c1 c2 ec ec2 : Nat} {x x2 : Next} {No : Nat → Prop} (h : RefNow w wx B BN n r A1 c1 A2 c2 x E ec No) (hs : Stays wx wy (fun k => k = w.heap.size ∨ blkOf E = some k)) (hx : NexOut wy BN w.heap.size w.heap.size x2 A2 c2 E2 ec2) : RefNow w wy B BN n r A1 c1 A2 c2 x2 E2 ec2 No where
  ref := h.ref.stays hs (fun k hk1 hk2 e => by
    have := h.lo
    rcases e with e | e
    · omega
    · have := (h.nex.data.lt k e).1; omega) (fun k hk e => by
    rcases e with e | e
    · exact h.nex.box.apart h.ref.out wantNeNext (e ▸ hk)
    · rcases h.ref.out.two h.nex.data wantNeU8 with e2 | e2
      · rw [e2] at hk; cases hk
      · exact e2 (hk.trans e.symm))
  nex := hx
  res := h.res.stays hs (fun e => by
    rcases e with e | e
    · omega
    · exact h.res.apart h.nex.data u8NeNext e)
  stay := h.stay.trans hs (fun k hk e => by
    rcases e with e | e
    · omega
    · have := (h.nex.data.lt k e).1; omega)
  lo := h.lo
theorem RefNow.next {w wx wy : World} {B BN n : Nat} {r : ft.Ref} {A1 A2 E : Option Addr} {c1 c2 ec : Nat} {x : Next} {No : Nat → Prop} (h : RefNow w wx B BN n r A1 c1 A2 c2 x E ec No) (hb : Below wx.heap.size wx wy) : RefNow w wy B BN n r A1 c1 A2 c2 x E ec No :=
  h.touch (Stays.of_below hb _) (h.nex.next hb)
theorem RefNow.done {w wx : World} {B BN n : Nat} {r : ft.Ref} {A1 A2 E : Option Addr} {c1 c2 ec : Nat} {x : Next} {No : Nat → Prop} (h : RefNow w wx B BN n r A1 c1 A2 c2 x E ec No) (d : Bool) : RefNow w (wx.setCell ⟨w.heap.size, 2, none⟩ (.bool d)) B BN n r A1 c1 A2 c2 { x with done := d } E ec No :=
  h.touch ((Stays.set _ _ _ _).mono fun _ _ h => .inl h) (h.nex.setDone d)
def ft.allTo (e : Int) (l : List Want) (k : Nat) : Bool := (l.take k).all fun w => decide (e ≤ w.at_)
theorem ft.allTo_succ (e : Int) (l : List Want) (k : Nat) (h : k < l.length) : ft.allTo e l (k + 1) = (ft.allTo e l k && decide (e ≤ (l.getD k ⟨0, 0⟩).at_)) := by
  unfold ft.allTo
  rw [List.take_succ_eq_append_getElem h, List.all_append, List.getD_eq_getElem?_getD, List.getElem?_eq_getElem h]
  simp
theorem ft.allTo_end (r : ft.Ref) : (decide (r.end_ < ft.never) && ft.allTo r.end_ r.out r.out.length) = ft.doneR r := by
  unfold ft.allTo ft.doneR
  rw [List.take_length]
theorem ft.bytesTo_succ (f : Int → UInt8) (k : Nat) : ft.bytesTo f (k + 1) = ft.bytesTo f k ++ [f k] := by
  unfold ft.bytesTo
  rw [List.range_succ, List.map_append]; rfl
theorem ft.bytesTo_len (f : Int → UInt8) (k : Nat) : (ft.bytesTo f k).length = k := by unfold ft.bytesTo; simp

set_option maxRecDepth 100000 in
set_option maxHeartbeats 4000000 in
theorem ref_on (r : ft.Ref) (l : List Want) (A A' : Option Addr) (c c' n B BN : Nat) (w : World) (h : RefAt w B r A c n) (ho : Own w BN 33 2 A' l.length c' (wantCells l)) (hBN : BN ≤ w.heap.size) (hf : Far A A') (hok : ft.OkR r) (hl2 : l.length ≤ 10) :
    Calls Try.prog 19 #[.agg #[.int .i64 0, .slice A' l.length c', .bool false, .slice none 0 0], .pointer (some ⟨B, 0, none⟩), .pointer (some ⟨B + 3, 0, none⟩), .pointer (some ⟨B + 4, 0, none⟩), .pointer (some ⟨B + 2, 0, none⟩)] w (OnResR w B BN n r l A A') := by
  obtain ⟨w1, hw1⟩ : ∃ w1, w1 = (w.alloc (.cells #[.int .i64 0, .slice A' l.length c', .bool false, .slice none 0 0] 30)).alloc (.cells #[.int .i64 0, .slice none 0 0, .bool false, .slice none 0 0] 30) := ⟨_, rfl⟩
  have HB1 : Hid (Below w.heap.size w w1) := Lib.hid (by rw [hw1]; exact balloc (balloc (bself w) _) _)
  have hs1 : w1.heap.size = w.heap.size + 1 + 1 := by rw [hw1]; simp
  have HS1 := Lib.hid hs1
  have HR1 : Hid (RefAt w1 B r A c n) := Lib.hid (h.next HB1.out)
  have HN1 : Hid (NexAt w1 BN w.heap.size l A' c') := Lib.hid (by
    rw [hw1]
    exact ⟨hBN, (Blk4.new w _ _ _ _ _).alloc _, (ho.alloc _).alloc _⟩)
  have HQ1 : Hid (Blk4 w1 (w.heap.size + 1) 30 (.int .i64 0) (.slice none 0 0) (.bool false) (.slice none 0 0)) := Lib.hid (by
    rw [hw1]
    have h := Blk4.new (w.alloc (.cells #[.int .i64 0, .slice A' l.length c', .bool false, .slice none 0 0] 30)) 30 (.int .i64 0) (.slice none 0 0) (.bool false) (.slice none 0 0)
    simpa using h)
  have HFR := Lib.hid hf
  have HOK := Lib.hid hok
  have hlB := h.lt
  have HAW : Hid (∀ k, blkOf A = some k → k < w.heap.size) := Lib.hid (fun k hk => (h.out.lt k hk).2)
  have HAW' : Hid (∀ k, blkOf A' = some k → k < w.heap.size) := Lib.hid (fun k hk => (ho.lt k hk).2)
  clear h ho hs1 hf hok
  go_enter Try.func19, Try.ntmps19
  go_upto_block 0 with fail
  rw [← hw1]
  clear hw1
  go_cut [] (fun wx => ∃ (r' : ft.Ref) (l' : List Want) (A1 : Option Addr) (c1 : Nat) (A2 : Option Addr) (c2 : Nat), Hid (RefAt wx B r' A1 c1 n ∧ NexAt wx BN w.heap.size l' A2 c2 ∧ Blk4 wx (w.heap.size + 1) 30 (.int .i64 0) (.slice none 0 0) (.bool false) (.slice none 0 0) ∧ Far A1 A2 ∧ Stays w wx (fun k => k = B ∨ k = B + 3 ∨ blkOf A = some k ∨ blkOf A' = some k) ∧
      Anew w A1 A ∧ Anew w A2 A' ∧ ft.fillR (6 - r.out.length) r l = (r', l') ∧ ft.OkR r'))
  case first =>
    go_wp2_with fail
    go_loopg [11] (6 - r.out.length) (fun gn _ wr => ∃ (r' : ft.Ref) (l' : List Want) (A1 : Option Addr) (c1 : Nat) (A2 : Option Addr) (c2 : Nat), Hid (RefAt wr B r' A1 c1 n ∧ NexAt wr BN w.heap.size l' A2 c2 ∧ Blk4 wr (w.heap.size + 1) 30 (.int .i64 0) (.slice none 0 0) (.bool false) (.slice none 0 0) ∧ Far A1 A2 ∧ Stays w wr (fun k => k = B ∨ k = B + 3 ∨ blkOf A = some k ∨ blkOf A' = some k) ∧
        Anew w A1 A ∧ Anew w A2 A' ∧ ft.fillR (6 - r'.out.length) r' l' = ft.fillR (6 - r.out.length) r l ∧ ft.OkR r' ∧ gn = 6 - r'.out.length ∧ l'.length + (6 - r'.out.length) ≤ 16))
    case atStart => exact ⟨r, l, A, c, A', c', Lib.hid ⟨HR1.out, HN1.out, HQ1.out, HFR.out, Stays.of_below HB1.out _, .inl rfl, .inl rfl, rfl, HOK.out, rfl, by omega⟩⟩
    case round =>
      obtain ⟨r', l', A1, c1, A2, c2, HR⟩ := hrel
      rename World => wr
      obtain ⟨hR, hN, hQ, hfr, hst, hnA, hnA', hfl, hor, hgn, hll⟩ := HR.out
      have hc0 := hR.b0.get 0
      have hc3 := hR.b3.get 0
      have hc4 := hR.b4.get 0
      simp only [List.getElem?_toArray, List.getElem?_cons_succ, List.getElem?_cons_zero] at hc0 hc3 hc4
      have hlo := hor.few
      have hf0 := hor.f0
      have he0 := hor.e0
      have hsz : w.heap.size ≤ wr.heap.size := hst.size
      have HM : Hid (ft.mayR r' = (decide (r'.out.length < 6) && (decide (r'.front ≤ 2048) && decide (r'.front < r'.end_)))) := Lib.hid rfl
      have HGN := Lib.hid hgn
      have HRR := Lib.hid hR
      have HNN := Lib.hid hN
      have HQQ := Lib.hid hQ
      have hlQ : w.heap.size + 1 < wr.heap.size := hQ.lt
      have HEX0 : Hid (∀ wx, Below wr.heap.size wr wx → ft.mayR r' = false → ∃ (r' : ft.Ref) (l' : List Want) (A1 : Option Addr) (c1 : Nat) (A2 : Option Addr) (c2 : Nat), Hid (RefAt wx B r' A1 c1 n ∧ NexAt wx BN w.heap.size l' A2 c2 ∧ Blk4 wx (w.heap.size + 1) 30 (.int .i64 0) (.slice none 0 0) (.bool false) (.slice none 0 0) ∧ Far A1 A2 ∧ Stays w wx (fun k => k = B ∨ k = B + 3 ∨ blkOf A = some k ∨ blkOf A' = some k) ∧
          Anew w A1 A ∧ Anew w A2 A' ∧ ft.fillR (6 - r.out.length) r l = (r', l') ∧ ft.OkR r')) := Lib.hid (fun wx hb hm => ⟨r', l', A1, c1, A2, c2, Lib.hid ⟨hR.next hb, hN.next hb, hQ.next hb, hfr, hst.trans (Stays.of_below hb (fun _ => False)) (fun _ _ h => h.elim), hnA, hnA', by rw [← hfl, ft.fillR_stop hm], hor⟩⟩)
      clear hR hN hQ hfr hst hnA hnA' hfl hor hgn HR1 HN1 HQ1
      by_cases h1 : r'.out.length < 6
      · have d1 : decide (r'.out.length < 6) = true := decide_eq_true h1
        have d1' : decide ((r'.out.length : Int) < 6) = true := decide_eq_true (by omega)
        by_cases h2 : r'.front ≤ 2048
        · have d2 : decide (r'.front ≤ 2048) = true := decide_eq_true h2
          by_cases h3 : r'.front < r'.end_
          · have d3 : decide (r'.front < r'.end_) = true := decide_eq_true h3
            clear HEX0
            have HMT : Hid (ft.mayR r' = true) := Lib.hid (by rw [HM.out, d1, d2, d3]; rfl)
            go_upto_region 3 with fail
            obtain ⟨w3, hw3⟩ : ∃ w3, w3 = wr.alloc (.cells #[.int .i64 r'.front, .int .i64 100] 33) := ⟨_, rfl⟩
            have HB3 : Hid (Below wr.heap.size wr w3) := Lib.hid (by rw [hw3]; exact balloc (bself _) _)
            have hx0 : w3.cell? ⟨wr.heap.size, 0, none⟩ = some (.int .i64 r'.front) := by rw [hw3]; simp [go_sem]
            have hx1 : w3.cell? ⟨wr.heap.size, 1, none⟩ = some (.int .i64 100) := by rw [hw3]; simp [go_sem]
            have hlx : wr.heap.size < w3.heap.size := by rw [hw3]; simp
            rw [← hw3]
            clear hw3 hc0 hc3 hc4 d1 d1' d2 d3 HM
            have HR3 := Lib.hid (HRR.out.next HB3.out)
            have HN3 := Lib.hid (HNN.out.next HB3.out)
            have HQ3 := Lib.hid (HQQ.out.next HB3.out)
            have hc0 := HR3.out.b0.get 0
            simp only [List.getElem?_toArray, List.getElem?_cons_succ, List.getElem?_cons_zero] at hc0
            go_upto_region 4 with (first
              | (at_builtin; refine wp_app _ rfl _ _ _ rfl elemWant B A1 r'.out.length c1 _ rfl (HR3.out.out.alloc _) _ 1 1 [_, _] rfl rfl (Cells.newAt _ _ _ rfl) (by simp [Value.oneCell']) (by omega) (by unfold maxLen; omega) (by simp only [World.size_alloc]; omega) ?_; intro A3 c3 w4 hO4 hg4; have k0 := (HR3.out.b0.next (balloc (bself w3) _)).kept hg4.grown (HR3.out.apart HR3.out.out wantNeSl wantNeMap wantNeInt B (by omega) (by omega)); have k1 := k0.get 0; have k2 := k0.frozen 0; simp only [List.getElem?_toArray, List.getElem?_cons_succ, List.getElem?_cons_zero] at k1; clear k0)
              | fail)
            obtain ⟨hR5, hst5, hn5⟩ := HR3.out.push ⟨r'.front, 100⟩ (balloc (bself w3) _) hg4 hO4
            obtain ⟨w5, hw5⟩ : ∃ w5, w5 = w4.setCell ⟨B, 0, none⟩ (.slice A3 (r'.out.length + 1) c3) := ⟨_, rfl⟩
            rw [← hw5] at hR5 hst5
            rw [← hw5]
            have HA1 : Hid (∀ k, blkOf A1 = some k → k < w.heap.size ∨ wr.heap.size > k ∧ k ≠ w.heap.size ∧ k ≠ w.heap.size + 1) := Lib.hid (fun k hk => by
              have h1 := (HRR.out.out.lt k hk).2
              refine .inr ⟨h1, fun e => ?_, fun e => ?_⟩
              · exact HNN.out.box.apart HRR.out.out wantNeNext (e ▸ hk)
              · exact HQQ.out.apart HRR.out.out wantNeNext (e ▸ hk))
            have hx0' := (World.cell?_of_block (a := ⟨wr.heap.size, 0, none⟩) (hst5.block wr.heap.size hlx (fun e => by
              rcases e with e | e
              · omega
              · have := (HRR.out.out.lt _ e).2; omega))).trans hx0
            have hx1' := (World.cell?_of_block (a := ⟨wr.heap.size, 1, none⟩) (hst5.block wr.heap.size hlx (fun e => by
              rcases e with e | e
              · omega
              · have := (HRR.out.out.lt _ e).2; omega))).trans hx1
            have hN5 := HN3.out.stays hst5 (fun e => by
              rcases e with e | e
              · omega
              · exact HN3.out.box.apart HR3.out.out wantNeNext e) (fun k hk e => by
              rcases e with e | e
              · exact HR3.out.apart HN3.out.out wantNeSl wantNeMap wantNeInt B (by omega) (by omega) (e ▸ hk)
              · exact HR.out.2.2.2.1 k e hk)
            have hQ5 := HQ3.out.stays hst5 (fun e => by
              rcases e with e | e
              · omega
              · exact HQ3.out.apart HR3.out.out wantNeNext e)
            clear hx0 hx1 hc0 k1 k2 hw5 hg4 hO4
            have HR5 := Lib.hid hR5
            have HST5 := Lib.hid hst5
            have HNW5 := Lib.hid hn5
            have HN5 := Lib.hid hN5
            have HQ5 := Lib.hid hQ5
            have hl5 : w3.heap.size ≤ w5.heap.size := hst5.size
            clear hR5 hst5 hn5 hN5 hQ5 HR3 HN3 HQ3
            have hc1 := HN5.out.box.cell1
            go_upto_region 5 with (first
              | (at_builtin; refine wp_app _ rfl _ _ _ rfl elemWant BN A2 l'.length c2 _ rfl (HN5.out.out.alloc _) _ 1 1 [_, _] rfl rfl (Cells.newAt _ _ _ rfl) (by simp [Value.oneCell']) (by omega) (by unfold maxLen; omega) (by simp only [World.size_alloc]; omega) ?_; intro A4 c4 w6 hO6 hg6; have k0 := (HN5.out.box.next (balloc (bself w5) _)).kept hg6.grown (HN5.out.box.apart HN5.out.out wantNeNext); have k1 := k0.cell1; have k2 := k0.frozen 1; clear k0)
              | fail)
            obtain ⟨hN7, hst7, hn7⟩ := HN5.out.push ⟨r'.front, 100⟩ (balloc (bself w5) _) hg6 hO6
            obtain ⟨w7, hw7⟩ : ∃ w7, w7 = w6.setCell ⟨w.heap.size, 1, none⟩ (.slice A4 (l'.length + 1) c4) := ⟨_, rfl⟩
            rw [← hw7] at hN7 hst7
            rw [← hw7]
            have hR7 := HR5.out.stays hst7 (fun k hk1 hk2 e => by
              rcases e with e | e
              · omega
              · exact HR5.out.apart HN5.out.out wantNeSl wantNeMap wantNeInt k hk1 hk2 e) (fun k hk e => by
              rcases e with e | e
              · exact HN5.out.box.apart HR5.out.out wantNeNext (e ▸ hk)
              · rcases HNW5.out with e2 | ⟨q, e3, e2⟩
                · exact HR.out.2.2.2.1 k (e2 ▸ hk) e
                · rw [hk] at e2; cases e2
                  have := (HNN.out.out.lt _ e).2; omega)
            have hQ7 := HQ5.out.stays hst7 (fun e => by
              rcases e with e | e
              · omega
              · exact HQ5.out.apart HN5.out.out wantNeNext e)
            have hfr7 : Far A3 A4 := fun k hk hk2 => by
              rcases hn7 with e | ⟨q, e1, e⟩
              · rw [e] at hk2
                rcases HNW5.out with e2 | ⟨q, e3, e2⟩
                · exact HR.out.2.2.2.1 k (e2 ▸ hk) hk2
                · rw [hk] at e2; cases e2
                  have := (HNN.out.out.lt _ hk2).2; omega
              · rw [e] at hk2; cases hk2
                have := (HR5.out.out.lt _ hk).2; omega
            clear hx0' hx1' hc1 k1 k2 hw7 hg6 hO6
            have hb7 := hR7.b3.get 0
            have hz7 := hR7.b3.frozen 0
            simp only [List.getElem?_toArray, List.getElem?_cons_succ, List.getElem?_cons_zero] at hb7
            have HEND : Hid (∃ (r2 : ft.Ref) (l2 : List Want) (A1 : Option Addr) (c1 : Nat) (A2 : Option Addr) (c2 : Nat), Hid (RefAt (w7.setCell ⟨B + 3, 0, none⟩ (.int .i64 (r'.front + 100))) B r2 A1 c1 n ∧ NexAt (w7.setCell ⟨B + 3, 0, none⟩ (.int .i64 (r'.front + 100))) BN w.heap.size l2 A2 c2 ∧ Blk4 (w7.setCell ⟨B + 3, 0, none⟩ (.int .i64 (r'.front + 100))) (w.heap.size + 1) 30 (.int .i64 0) (.slice none 0 0) (.bool false) (.slice none 0 0) ∧ Far A1 A2 ∧ Stays w (w7.setCell ⟨B + 3, 0, none⟩ (.int .i64 (r'.front + 100))) (fun k => k = B ∨ k = B + 3 ∨ blkOf A = some k ∨ blkOf A' = some k) ∧
                Anew w A1 A ∧ Anew w A2 A' ∧ ft.fillR (6 - r2.out.length) r2 l2 = ft.fillR (6 - r.out.length) r l ∧ ft.OkR r2 ∧ (6 - (r'.out ++ [(⟨r'.front, 100⟩ : Want)]).length) = 6 - r2.out.length ∧ l2.length + (6 - r2.out.length) ≤ 16)) := Lib.hid (by
              obtain ⟨_, _, _, hfr, hst, hnA, hnA', hfl, hor, hgn, hll⟩ := HR.out
              have h3 := HB3.out.size
              refine ⟨_, _, A3, c3, A4, c4, Lib.hid ⟨hR7.setFront _, hN7.stays (Stays.set w7 (B + 3) 0 _) (fun e => by omega) (fun k hk e => hR7.apart hN7.out wantNeSl wantNeMap wantNeInt (B + 3) (by omega) (by omega) (e ▸ hk)), hQ7.setCell (by show B + 3 ≠ w.heap.size + 1; omega) _, hfr7, ?_, ?_, ?_, by rw [← hfl]; exact (ft.fillR_go HMT.out).symm, hor.step HMT.out, rfl, by simp; omega⟩⟩
              · refine (hst.join ((Stays.of_below HB3.out (fun _ => False)).join (HST5.out.join (hst7.join (Stays.set w7 (B + 3) 0 _))))).mono (fun k hk h => ?_)
                rcases h with h | h | h | h | h
                · exact h
                · exact h.elim
                · exact h.elim .inl (fun e => (hnA.inf e).elim (fun e => .inr (.inr (.inl e))) (fun e => absurd hk (by omega)))
                · refine h.elim (fun e => by omega) (fun e => (hnA'.inf e).elim (fun e => .inr (.inr (.inr e))) (fun e => absurd hk (by omega)))
                · exact .inr (.inl h)
              · exact hnA.trans HNW5.out (by omega)
              · exact hnA'.trans hn7 (by omega))
            clear hR7 hQ7 hN7 hfr7 hn7 hst7 HR HR5 HN5 HQ5 HST5 HNW5 HA1 HRR HNN HQQ
            go_wp2
            go_roundg (6 - (r'.out ++ [(⟨r'.front, 100⟩ : Want)]).length)
            case measure => have := HGN.out; simp only [List.length_append, List.length_singleton]; omega
            case rel => exact HEND.out
          · have d3 : decide (r'.front < r'.end_) = false := decide_eq_false h3
            have HMF : Hid (ft.mayR r' = false) := Lib.hid (by rw [HM.out, d1, d2, d3]; rfl)
            have HEX := Lib.hid (fun wx hb => HEX0.out wx hb HMF.out)
            clear HEX0 HM HR HRR HNN HQQ HMF
            go_wp2
            go_meet
            exact HEX.out _ (by repeat (first | (with_reducible exact Below.refl _ _) | (with_reducible assumption) | (with_reducible refine bset ?_ ?_ _) | (with_reducible refine balloc ?_ _) | (with_reducible refine Below.drew ?_) | (with_reducible refine bdrewN ?_ _) | (with_reducible refine bnext ?_ (by with_reducible assumption)) | exact Nat.le_refl _ | (simp; done) | omega | (simp; omega)))
        · have d2 : decide (r'.front ≤ 2048) = false := decide_eq_false h2
          have HMF : Hid (ft.mayR r' = false) := Lib.hid (by rw [HM.out, d1, d2]; rfl)
          have HEX := Lib.hid (fun wx hb => HEX0.out wx hb HMF.out)
          clear HEX0 HM HR HRR HNN HQQ HMF
          go_wp2
          go_meet
          exact HEX.out _ (by repeat (first | (with_reducible exact Below.refl _ _) | (with_reducible assumption) | (with_reducible refine bset ?_ ?_ _) | (with_reducible refine balloc ?_ _) | (with_reducible refine Below.drew ?_) | (with_reducible refine bdrewN ?_ _) | (with_reducible refine bnext ?_ (by with_reducible assumption)) | exact Nat.le_refl _ | (simp; done) | omega | (simp; omega)))
      · have d1 : decide (r'.out.length < 6) = false := decide_eq_false h1
        have d1' : decide ((r'.out.length : Int) < 6) = false := decide_eq_false (by omega)
        have HMF : Hid (ft.mayR r' = false) := Lib.hid (by rw [HM.out, d1]; rfl)
        have HEX := Lib.hid (fun wx hb => HEX0.out wx hb HMF.out)
        clear HEX0 HM HR HRR HNN HQQ HMF
        go_wp2
        go_meet
        exact HEX.out _ (by repeat (first | (with_reducible exact Below.refl _ _) | (with_reducible assumption) | (with_reducible refine bset ?_ ?_ _) | (with_reducible refine balloc ?_ _) | (with_reducible refine Below.drew ?_) | (with_reducible refine bdrewN ?_ _) | (with_reducible refine bnext ?_ (by with_reducible assumption)) | exact Nat.le_refl _ | (simp; done) | omega | (simp; omega)))
  case rest =>
    obtain ⟨r', l', A1, c1, A2, c2, HR⟩ := hcut
    rename World => w2
    obtain ⟨hR, hN, hQ, hfr, hst, hnA, hnA', hfl, hor⟩ := HR.out
    have HP2 : Hid (RefNow w w2 B BN n r' A1 c1 A2 c2 ⟨0, l', false, []⟩ none 0 (fun k => k = B ∨ k = B + 3 ∨ blkOf A = some k ∨ blkOf A' = some k)) := Lib.hid ⟨hR, ⟨hN.lo, hN.box, hN.out, Own.nil _ _ _ _⟩, hQ, hst, hlB⟩
    have HFR2 := Lib.hid hfr
    have HNA := Lib.hid hnA
    have HNA' := Lib.hid hnA'
    have HON : Hid (ft.onR r l = (r', ⟨0, l', ft.doneR r', if ft.doneR r' then ft.bytesTo r'.byte r'.end_.toNat else []⟩)) := Lib.hid (by unfold ft.onR; rw [hfl])
    have hlo := hor.few
    have he0 := hor.e0
    have HNV : Hid (ft.never = 1099511627776) := Lib.hid rfl
    clear HR hR hN hQ hfr hst hnA hnA' hfl hor HR1 HN1 HQ1 HFR HOK
    have hc4 := HP2.out.ref.b4.get 0
    simp only [List.getElem?_toArray, List.getElem?_cons_succ, List.getElem?_cons_zero] at hc4
    have n2 := HP2.out.nex.box.cell2
    have f2 := HP2.out.nex.box.frozen 2
    go_upto_region 7 with fail
    have hP3 := HP2.out.done (decide (r'.end_ < ft.never))
    rw [show ft.never = 1099511627776 from rfl] at hP3
    obtain ⟨w3, hw3⟩ : ∃ w3, w3 = w2.setCell ⟨w.heap.size, 2, none⟩ (.bool (decide (r'.end_ < 1099511627776))) := ⟨_, rfl⟩
    rw [← hw3] at hP3
    rw [← hw3]
    have HP3 := Lib.hid hP3
    clear hP3 hw3 hc4 n2 f2 HP2
    have hc0 := HP3.out.ref.b0.get 0
    simp only [List.getElem?_toArray, List.getElem?_cons_succ, List.getElem?_cons_zero] at hc0
    go_upto_block 2 with fail
    go_cut [] (fun wx => Hid (RefNow w wx B BN n r' A1 c1 A2 c2 ⟨0, l', ft.doneR r', []⟩ none 0 (fun k => k = B ∨ k = B + 3 ∨ blkOf A = some k ∨ blkOf A' = some k)))
    case first =>
      go_wp2
      go_loopw [42] (fun i wr => ∃ k : Nat, k ≤ r'.out.length ∧ i = .int .i64 k ∧ Hid (RefNow w wr B BN n r' A1 c1 A2 c2 ⟨0, l', decide (r'.end_ < ft.never) && ft.allTo r'.end_ r'.out k, []⟩ none 0 (fun k => k = B ∨ k = B + 3 ∨ blkOf A = some k ∨ blkOf A' = some k))) (fun i _ => r'.out.length - (intOf i).toNat)
      case atStart => exact ⟨0, by omega, rfl, Lib.hid (by
        have h := HP3.out
        have e : (decide (r'.end_ < ft.never) && ft.allTo r'.end_ r'.out 0) = decide (r'.end_ < 1099511627776) := by unfold ft.allTo ft.never; simp
        rw [e]
        exact h)⟩
      case round =>
        obtain ⟨k, hk, rfl, HK⟩ := hrel
        rename World => wr
        by_cases hlt : k < r'.out.length
        · obtain ⟨g, rfl, hg0, hg1, e0, e1⟩ := want_at HK.out.ref.out hlt
          have hlt' : (k : Int) < (r'.out.length : Int) := by omega
          have hsz : w.heap.size + 1 < wr.heap.size := HK.out.res.lt
          have hszn : w.heap.size < wr.heap.size := by omega
          have hszb : B + 4 < wr.heap.size := by omega
          have HS := Lib.hid (ft.allTo_succ r'.end_ r'.out k hlt)
          have hc4 := HK.out.ref.b4.get 0
          simp only [List.getElem?_toArray, List.getElem?_cons_succ, List.getElem?_cons_zero] at hc4
          have n2 := HK.out.nex.box.cell2
          have f2 := HK.out.nex.box.frozen 2
          dsimp only at n2
          have HX := Lib.hid (fun o d => (HK.out.done d).next (balloc (bself _) o))
          clear HP3 HK hc0
          generalize hT : (decide (r'.end_ < ft.never) && ft.allTo r'.end_ r'.out k) = T at *
          have HT := Lib.hid hT
          clear hT
          generalize r'.out.getD k ⟨0, 0⟩ = x at *
          cases T with
          | true =>
            go_wp2
            go_roundw
            case rel => exact ⟨k + 1, by omega, by go_num, Lib.hid (by
              rw [HS.out, ← Bool.and_assoc, HT.out, Bool.true_and]
              exact HX.out _ _)⟩
            case measure => simp [intOf]; omega
          | false =>
            go_wp2
            go_roundw
            case rel => exact ⟨k + 1, by omega, by go_num, Lib.hid (by
              rw [HS.out, ← Bool.and_assoc, HT.out, Bool.false_and]
              exact HX.out _ _)⟩
            case measure => simp [intOf]; omega
        · obtain rfl : k = r'.out.length := by omega
          have HK2 : Hid (RefNow w wr B BN n r' A1 c1 A2 c2 ⟨0, l', ft.doneR r', []⟩ none 0 (fun k => k = B ∨ k = B + 3 ∨ blkOf A = some k ∨ blkOf A' = some k)) := Lib.hid (by have h := HK.out; rw [ft.allTo_end] at h; exact h)
          clear HK HP3 hc0
          go_wp2
          go_meet
          exact HK2
    case rest =>
      rename World => w4
      have HP4 := hcut
      clear hcut HP3 hc0
      obtain ⟨d, HDD⟩ : ∃ d, Hid (d = ft.doneR r') := ⟨_, Lib.hid rfl⟩
      rw [← HDD.out] at HP4 HON
      have n2 := HP4.out.nex.box.cell2
      dsimp only at n2
      go_upto_if 57 with (fail)
      go_cut [] (fun wx => ∃ E ec, Hid (RefNow w wx B BN n r' A1 c1 A2 c2 ⟨0, l', d, if d then ft.bytesTo r'.byte r'.end_.toNat else []⟩ E ec (fun k => k = B ∨ k = B + 3 ∨ blkOf A = some k ∨ blkOf A' = some k)))
      case first =>
        cases d with
        | false =>
          go_wp2
          go_meet
          exact ⟨none, 0, HP4⟩
        | true =>
          have he1 : r'.end_ ≤ 2148 := by
            have h := HDD.out
            unfold ft.doneR at h
            have h2 := h.symm
            rw [Bool.and_eq_true] at h2
            have h3 := of_decide_eq_true h2.1
            rcases he0.2 with h | h
            · exact h
            · omega
          clear n2 HDD
          go_wp2
          go_loopw [10] (fun i wr => ∃ (k : Nat) (E : Option Addr) (ec : Nat), (k : Int) ≤ r'.end_ ∧ i = .int .i64 k ∧ Hid (RefNow w wr B BN n r' A1 c1 A2 c2 ⟨0, l', true, ft.bytesTo r'.byte k⟩ E ec (fun k => k = B ∨ k = B + 3 ∨ blkOf A = some k ∨ blkOf A' = some k))) (fun i _ => r'.end_.toNat - (intOf i).toNat)
          case atStart => exact ⟨0, none, 0, by omega, rfl, HP4⟩
          case round =>
            obtain ⟨k, E, ec, hk, rfl, HK⟩ := hrel
            rename World => wr
            have hsz : w.heap.size + 1 < wr.heap.size := HK.out.res.lt
            have hszn : w.heap.size < wr.heap.size := by omega
            have hc4 := HK.out.ref.b4.get 0
            simp only [List.getElem?_toArray, List.getElem?_cons_succ, List.getElem?_cons_zero] at hc4
            by_cases hlt : (k : Int) < r'.end_
            · have hc2 := HK.out.ref.b2.get 0
              simp only [List.getElem?_toArray, List.getElem?_cons_succ, List.getElem?_cons_zero] at hc2
              have n3 := HK.out.nex.box.cell3
              obtain ⟨f, hm, hf⟩ := HK.out.ref.map
              have HM := Lib.hid hm
              have HV : Hid (((mapI f) (.int .i64 (k : Int))).getD (.int .u8 0) = .int .u8 ((r'.byte k).toNat : Int)) := Lib.hid (by rw [mapI_at]; exact hf k)
              have HKL : Hid ((ft.bytesTo r'.byte k).length = k) := Lib.hid (ft.bytesTo_len _ _)
              have HWF : Hid ((Lit.int .i64 (k : Int)).wf = true) := Lib.hid (wf_i64 (by unfold IntOk; omega))
              have HDT : Hid (Own wr w.heap.size 5 1 E k ec ((ft.bytesTo r'.byte k).map fun b => .int .u8 b.toNat)) := Lib.hid (by have h := HK.out.nex.data; dsimp only at h; rwa [ft.bytesTo_len] at h)
              dsimp only at n3
              rw [ft.bytesTo_len] at n3
              clear hm hf HP4
              go_wp2_with (first
                | (at_lookup; refine wp_mlook _ rfl _ _ _ rfl (Go.Maps.int_keyed Try.underlying3) Try.underlying68 (z := .int .u8 0) (by kernel_rfl) rfl HM.out _ rfl (Go.Maps.keyOf_int_mk Try.underlying3 HWF.out) ?_; rw [HV.out])
                | (at_builtin; refine wp_app _ rfl _ _ _ rfl elemU8 w.heap.size E k ec _ rfl (HDT.out.alloc _) _ 1 1 [_] rfl rfl (Cells.newAt _ _ _ rfl) (by simp [Value.oneCell']) (by omega) (by unfold maxLen; omega) (by simp only [World.size_alloc]; omega) ?_; intro E2 ec2 w6 hO6 hg6; have k0 := (HK.out.nex.box.next (balloc (bself wr) _)).kept hg6.grown (HK.out.nex.box.apart HDT.out u8NeNext); have k1 := k0.cell3; have k2 := k0.frozen 3; clear k0; have HO6 := Lib.hid hO6; have HG6 := Lib.hid hg6; clear hO6 hg6)
                | fail)
              go_roundw
              case rel =>
                obtain ⟨hx, hst, _⟩ := HK.out.nex.pushByte (r'.byte k) (balloc (bself wr) _) HG6.out (E2 := E2) (ec2 := ec2) (by
                  dsimp only
                  rw [ft.bytesTo_len]
                  exact HO6.out)
                dsimp only at hx hst
                rw [ft.bytesTo_len] at hx hst
                refine ⟨k + 1, E2, ec2, by omega, by go_num, Lib.hid ?_⟩
                rw [ft.bytesTo_succ]
                exact HK.out.touch hst hx
              case measure => simp [intOf]; omega
            · have hke : r'.end_.toNat = k := by omega
              have HKE := Lib.hid hke
              clear hke HP4
              go_wp2
              go_meet
              refine ⟨E, ec, ?_⟩
              rw [HKE.out]
              exact HK
      case rest =>
        obtain ⟨E, ec, HP5⟩ := hcut
        rename World => w5
        clear HP4 n2
        obtain ⟨dat, HDA⟩ : ∃ dat, Hid (dat = if d then ft.bytesTo r'.byte r'.end_.toNat else []) := ⟨_, Lib.hid rfl⟩
        rw [← HDA.out] at HP5 HON
        have n0 := HP5.out.nex.box.cell0
        have n1 := HP5.out.nex.box.cell1
        have n2 := HP5.out.nex.box.cell2
        have n3 := HP5.out.nex.box.cell3
        dsimp only at n0 n1 n2 n3
        have q0 := HP5.out.res.cell0
        have q1 := HP5.out.res.cell1
        have q2 := HP5.out.res.cell2
        have q3 := HP5.out.res.cell3
        have f0 := HP5.out.res.frozen 0
        have f1 := HP5.out.res.frozen 1
        have f2 := HP5.out.res.frozen 2
        have f3 := HP5.out.res.frozen 3
        have HEND : Hid (∀ wf, Stays w5 wf (fun k => k = w.heap.size + 1) → OnResR w B BN n r l A A' (.returned (.agg #[.int .i64 0, .slice A2 l'.length c2, .bool d, .slice E dat.length ec])) wf) := Lib.hid (fun wf hs => by
          unfold OnResR
          rw [HON.out]
          have hR := HP5.out.ref.stays hs (fun k hk1 hk2 e => by omega) (fun k hk e => HP5.out.res.apart HP5.out.ref.out wantNeNext (e ▸ hk))
          have hX := HP5.out.nex.stays hs (fun e => by omega) (fun k hk e => HP5.out.res.apart HP5.out.nex.out wantNeNext (e ▸ hk)) (fun k hk e => HP5.out.res.apart HP5.out.nex.data u8NeNext (e ▸ hk))
          refine ⟨A1, c1, _, rfl, hR, Next.rep.mono (next_of_out hX rfl) (fun k hk => ⟨?_, rfl⟩), HP5.out.stay.trans hs (fun k hk h => by omega), HNA.out⟩
          rcases hk with h | h
          · refine ⟨(hX.out.lt k h).1, (hX.out.lt k h).2, ?_, fun e => HFR2.out k e h⟩
            rcases HNA'.out.inf h with h2 | h2
            · exact .inr h2
            · exact .inl h2
          · refine ⟨by have := (hX.data.lt k h).1; omega, (hX.data.lt k h).2, .inl (hX.data.lt k h).1, fun e => ?_⟩
            rcases hR.out.two hX.data wantNeU8 with e2 | e2
            · rw [e2] at e; cases e
            · exact e2 (e.trans h.symm))
        clear HDA HDD HON HNA HNA' HFR2 HP5
        go_wp2
        exact bodyPost_ret (v := .agg #[.int .i64 0, .slice A2 l'.length c2, .bool d, .slice E dat.length ec]) (by simp [results, Try.results19, go_sem, *]) rfl (HEND.out _ (((Stays.set _ _ _ _).comp (Stays.set _ _ _ _)).comp ((Stays.set _ _ _ _).comp (Stays.set _ _ _ _))))
end Go.Proofs.Ytdldfllllgogoaa
