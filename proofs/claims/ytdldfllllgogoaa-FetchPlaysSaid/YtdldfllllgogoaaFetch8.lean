/- Package fetch: got, where the answer is one of those that were asked for. No condition. -/
import Derived.Test.YtdldfllllgogoaaFetch7
import Derived.Test.YtdldfllllgogoaaBlkA
import Derived.Deep.CutBlock
namespace Go.Proofs.Ytdldfllllgogoaa
open Go.RowKit
set_option linter.unusedSimpArgs false

/-- two places of a row: the old block, or a new one -/
def Anew (w : World) (A1 A : Option Addr) : Prop := blkOf A1 = blkOf A ∨ ∃ k, w.heap.size ≤ k ∧ blkOf A1 = some k
theorem Anew.refl (w : World) (A : Option Addr) : Anew w A A := .inl rfl
theorem Anew.trans {w w1 : World} {A A1 A2 : Option Addr} (h : Anew w A1 A) (h2 : Anew w1 A2 A1) (hs : w.heap.size ≤ w1.heap.size) : Anew w A2 A := by
  rcases h2 with e | ⟨k, h3, e⟩
  · unfold Anew; rw [e]; exact h
  · exact .inr ⟨k, by omega, e⟩
theorem Anew.of_grew {w w' : World} {A A' : Option Addr} (h : Grew w w' A A') : Anew w A' A := h.blk
theorem Anew.below {w w1 : World} {A A1 : Option Addr} (h : Anew w1 A1 A) (hs : w.heap.size ≤ w1.heap.size) : Anew w A1 A := h.imp id fun ⟨k, a, b⟩ => ⟨k, by omega, b⟩
theorem Anew.inf {w : World} {A A1 : Option Addr} (h : Anew w A1 A) {k : Nat} (hk : blkOf A1 = some k) : blkOf A = some k ∨ w.heap.size ≤ k := by
  rcases h with e | ⟨g, h1, e⟩
  · exact .inl (e ▸ hk)
  · rw [e] at hk; cases hk; exact .inr h1
/-- within got: the fetcher, the got's own three blocks, and what is as it was -/
structure GotAt (w wx : World) (B F : Nat) (s : ft.St) (g : Got) (G : Option Addr) (gc : Nat) (A0 D0 : Option Addr) (A : Option Addr) (c : Nat) (D : Option Addr) (dc : Nat) : Prop where
  fet : FetAt wx B F s A c D dc
  got : BlkA wx w.heap.size 66 #[.int .i64 g.at_, .int .i64 g.count, .slice G g.data.length gc]
  src : SlRep Rep.u8 wx (· < B) g.data G gc
  stay : Stays w wx (InF F A0 D0)
  na : Anew w A A0
  nd : Anew w D D0
  lo : B ≤ w.heap.size
theorem GotAt.next {w wx wy : World} {B F : Nat} {s : ft.St} {g : Got} {G : Option Addr} {gc : Nat} {A0 D0 A D : Option Addr} {c dc : Nat} (h : GotAt w wx B F s g G gc A0 D0 A c D dc) (hb : Below wx.heap.size wx wy) : GotAt w wy B F s g G gc A0 D0 A c D dc where
  fet := h.fet.stays (Stays.of_below hb (fun _ => False)) id (fun _ _ => id) (fun _ _ => id)
  got := h.got.next hb
  src := h.src.keep fun k hk => ⟨hk, hb.block k (Nat.lt_of_lt_of_le (Nat.lt_of_lt_of_le hk h.fet.lo) (Nat.le_of_lt h.fet.box.lt))⟩
  stay := h.stay.trans (Stays.of_below hb (fun _ => False)) (fun _ _ h => h.elim)
  na := h.na
  nd := h.nd
  lo := h.lo
theorem gotNeWant : (33 : TypeId) ≠ 66 := by decide
theorem u8NeGot : (5 : TypeId) ≠ 66 := by decide
theorem fetNeGot : (62 : TypeId) ≠ 66 := by decide
/-- a store in the fetcher or in one of its rows -/
theorem GotAt.touch {w wx wy : World} {B F : Nat} {s s' : ft.St} {g : Got} {G : Option Addr} {gc : Nat} {A0 D0 A D A' D' : Option Addr} {c dc c' dc' : Nat} (h : GotAt w wx B F s g G gc A0 D0 A c D dc) (hs : Stays wx wy (fun k => InF F A D k ∨ k = w.heap.size + 1)) (hf : FetAt wy B F s' A' c' D' dc') (ha : Anew wx A' A) (hd : Anew wx D' D) : GotAt w wy B F s' g G gc A0 D0 A' c' D' dc' where
  fet := hf
  got := h.got.stays hs (fun e => by
    rcases e with (e | e | e) | e
    · exact (BlkA.two (cs := #[_, _, _, _]) (show BlkA wx F 62 _ from h.fet.box) h.got fetNeGot) e.symm
    · exact h.got.apart h.fet.out gotNeWant e
    · exact h.got.apart h.fet.data u8NeGot e
    · omega)
  src := h.src.keep fun k hk => ⟨hk, hs.block k (Nat.lt_of_lt_of_le (Nat.lt_of_lt_of_le hk h.fet.lo) (Nat.le_of_lt h.fet.box.lt)) (fun e => by
    have hz := h.stay.size
    rcases e with (e | e | e) | e
    · have := h.fet.lo; omega
    · have := (h.fet.out.lt k e).1; omega
    · have := (h.fet.data.lt k e).1; omega
    · have := h.lo; omega)⟩
  stay := h.stay.trans hs fun k hk e => by
    rcases e with (e | e | e) | e
    · exact .inl e
    · exact (h.na.inf e).elim (fun e => .inr (.inl e)) (fun e => absurd hk (by omega))
    · exact (h.nd.inf e).elim (fun e => .inr (.inr e)) (fun e => absurd hk (by omega))
    · omega
  na := h.na.trans ha h.stay.size
  nd := h.nd.trans hd h.stay.size
  lo := h.lo
theorem InF.stays_out {wx wy : World} {F : Nat} {A D : Option Addr} (h : Stays wx wy (fun k => blkOf A = some k)) : Stays wx wy (InF F A D) := h.mono fun _ _ h => .inr (.inl h)
theorem InF.stays_data {wx wy : World} {F : Nat} {A D : Option Addr} (h : Stays wx wy (fun k => blkOf D = some k)) : Stays wx wy (InF F A D) := h.mono fun _ _ h => .inr (.inr h)
theorem InF.stays_set {wx : World} {F : Nat} {A D : Option Addr} (o : Nat) (v : Value) : Stays wx (wx.setCell ⟨F, o, none⟩ v) (InF F A D) := (Stays.set wx F o v).mono fun _ _ h => .inl h
theorem Stays.comp {w w1 w2 : World} {No : Nat → Prop} (h : Stays w w1 No) (h2 : Stays w1 w2 No) : Stays w w2 No := h.trans h2 fun _ _ h => h
/-- one of those asked for was taken out -/
theorem GotAt.erase {w wx w3 : World} {B F i : Nat} {s : ft.St} {g : Got} {G : Option Addr} {gc : Nat} {A0 D0 A D : Option Addr} {c dc : Nat} (h : GotAt w wx B F s g G gc A0 D0 A c D dc)
    (ho : Own w3 B 33 2 A (s.out.eraseIdx i).length c (wantCells (s.out.eraseIdx i))) (hs : Stays wx w3 (fun k => blkOf A = some k)) :
    GotAt w (w3.setCell ⟨F, 0, none⟩ (.slice A (s.out.eraseIdx i).length c)) B F { s with out := s.out.eraseIdx i } g G gc A0 D0 A c D dc := by
  have hAF := h.fet.box.apart h.fet.out wantNeFet
  have hDF := h.fet.box.apart h.fet.data u8NeFet
  have hb3 := h.fet.box.stays hs hAF
  have hd3 := h.fet.data.stays hs (fun k hk e => by
    rcases h.fet.out.two h.fet.data wantNeU8 with h2 | h2
    · rw [h2] at e; cases e
    · exact h2 (e.trans hk.symm))
  exact h.touch (((InF.stays_out hs).comp (InF.stays_set 0 _)).mono fun _ _ h => .inl h) ⟨h.fet.lo, hb3.set0 _, ho.setCell (by exact hAF) _, hd3.setCell (by exact hDF) _⟩ (Anew.refl _ _) (Anew.refl _ _)
/-- the bytes' row grew, and the fetcher was told -/
theorem GotAt.grow {w wx w3 : World} {B F k : Nat} {s : ft.St} {g : Got} {G : Option Addr} {gc : Nat} {A0 D0 A D D' : Option Addr} {c dc dc' : Nat} (h : GotAt w wx B F s g G gc A0 D0 A c D dc)
    (ho : Own w3 B 5 1 D' (s.data.length + k) dc' ((s.data.map fun b => .int .u8 b.toNat) ++ List.replicate k (.int .u8 0))) (hg : Grew wx w3 D D') :
    GotAt w (w3.setCell ⟨F, 3, none⟩ (.slice D' (s.data.length + k) dc')) B F { s with data := s.data ++ List.replicate k 0 } g G gc A0 D0 A c D' dc' := by
  have hs := Stays.grew hg
  have hDF := h.fet.box.apart h.fet.data u8NeFet
  have hAF := h.fet.box.apart h.fet.out wantNeFet
  have hb3 := h.fet.box.stays hs hDF
  have ha3 := h.fet.out.stays hs (fun k hk e => by
    rcases h.fet.out.two h.fet.data wantNeU8 with h2 | h2
    · rw [h2] at hk; cases hk
    · exact h2 (hk.trans e.symm))
  have hD'F : blkOf D' ≠ some F := hb3.apart ho u8NeFet
  have hl : (s.data ++ List.replicate k 0).length = s.data.length + k := by simp
  have hm : ((s.data ++ List.replicate k 0).map fun b : UInt8 => Value.int .u8 (b.toNat : Int)) = (s.data.map fun b => .int .u8 b.toNat) ++ List.replicate k (.int .u8 0) := by simp
  refine h.touch (((InF.stays_data hs).comp (InF.stays_set 3 _)).mono fun _ _ h => .inl h) ⟨h.fet.lo, ?_, ha3.setCell (by exact hAF) _, ?_⟩ (Anew.refl _ _) (Anew.of_grew hg)
  · show Blk4 _ F _ _ _ _ (.slice D' (s.data ++ List.replicate k 0).length dc')
    rw [hl]; exact hb3.set3 _
  · show Own _ B _ 1 D' (s.data ++ List.replicate k 0).length dc' ((s.data ++ List.replicate k 0).map fun b : UInt8 => Value.int .u8 (b.toNat : Int))
    rw [hl, hm]; exact ho.setCell (by exact hD'F) _
/-- bytes were copied into the row -/
theorem GotAt.copy {w wx w3 : World} {B F : Nat} {s : ft.St} {d' : List UInt8} {g : Got} {G : Option Addr} {gc : Nat} {A0 D0 A D : Option Addr} {c dc : Nat} (h : GotAt w wx B F s g G gc A0 D0 A c D dc)
    (ho : Own w3 B 5 1 D s.data.length dc (d'.map fun b => .int .u8 b.toNat)) (hl : d'.length = s.data.length) (hg : Grew wx w3 D D) : GotAt w w3 B F { s with data := d' } g G gc A0 D0 A c D dc := by
  have hs := Stays.grew hg
  have hDF := h.fet.box.apart h.fet.data u8NeFet
  have hb3 := h.fet.box.stays hs hDF
  have ha3 := h.fet.out.stays hs (fun k hk e => by
    rcases h.fet.out.two h.fet.data wantNeU8 with h2 | h2
    · rw [h2] at hk; cases hk
    · exact h2 (hk.trans e.symm))
  refine h.touch ((InF.stays_data hs).mono fun _ _ h => .inl h) ⟨h.fet.lo, ?_, ha3, ?_⟩ (Anew.refl _ _) (Anew.refl _ _)
  · show Blk4 _ F _ _ _ _ (.slice D d'.length dc)
    rw [hl]; exact hb3
  · show Own _ B _ 1 D d'.length dc _
    rw [hl]; exact ho
theorem GotAt.end_ {w wx : World} {B F : Nat} {s : ft.St} {g : Got} {G : Option Addr} {gc : Nat} {A0 D0 A D : Option Addr} {c dc : Nat} (h : GotAt w wx B F s g G gc A0 D0 A c D dc) (v : Int) : GotAt w (wx.setCell ⟨F, 2, none⟩ (.int .i64 v)) B F { s with end_ := v } g G gc A0 D0 A c D dc :=
  h.touch ((InF.stays_set 2 _).mono fun _ _ h => .inl h) ⟨h.fet.lo, h.fet.box.set2 _, h.fet.out.setCell (by exact h.fet.box.apart h.fet.out wantNeFet) _, h.fet.data.setCell (by exact h.fet.box.apart h.fet.data u8NeFet) _⟩ (Anew.refl _ _) (Anew.refl _ _)

set_option maxRecDepth 100000 in
set_option maxHeartbeats 4000000 in
theorem fetch_got_ok (s : ft.St) (g : Got) (i : Nat) (G : Option Addr) (gc : Nat) (A D : Option Addr) (c dc B F : Nat) (w : World) (h : FetAt w B F s A c D dc) (hG : SlRep Rep.u8 w (· < B) g.data G gc) (hL : ∃ r, ft.Like s r)
    (hi : ft.index s.out ⟨g.at_, g.count⟩ = some i) (hcn : ¬ g.count < g.data.length) :
    Calls Try.prog 18 #[.pointer (some ⟨F, 0, none⟩), .agg #[.int .i64 g.at_, .int .i64 g.count, .slice G g.data.length gc]] w (GotRes w B F s g A D) := by
  have HGR : Hid (ft.got s g = ft.on (ft.came s g i) (ft.rest g)) := Lib.hid (ft.got_ok hi hcn)
  obtain ⟨r, hlike⟩ := hL
  obtain ⟨hilt, hie⟩ := ft.index_some hi
  obtain ⟨v1, v2, v3, v4⟩ := hlike.wants ⟨g.at_, g.count⟩ (by rw [← hie]; exact List.getElem_mem hilt)
  dsimp only at v1 v2 v3 v4
  have hfew := hlike.few
  have hf0 := hlike.f0
  have he0 := hlike.e0
  have hdl := hlike.len
  have HCA := Lib.hid (ft.came_like hlike g hi hcn)
  have HF := Lib.hid h
  have HFS : Hid (∀ wx, Below w.heap.size w wx → FetAt wx B F s A c D dc) := Lib.hid (fun wx hb => HF.out.stays (Stays.of_below hb (fun _ => False)) id (fun _ _ => id) (fun _ _ => id))
  have HX := Lib.hid (fun wx (hb : Below w.heap.size w wx) => fetch_idx s.out ⟨g.at_, g.count⟩ A c B wx (HFS.out wx hb).out (by omega))
  have hc0 := HF.out.box.cell0
  have hlF := HF.out.box.lt
  have hBF := HF.out.lo
  have HI := Lib.hid hi
  obtain ⟨w1, hw1⟩ : ∃ w1, w1 = ((w.alloc (.cells #[.int .i64 g.at_, .int .i64 g.count, .slice G g.data.length gc] 66)).alloc (.cells #[.int .i64 0, .slice none 0 0, .bool false, .slice none 0 0] 30)).alloc (.cells #[.int .i64 g.at_, .int .i64 g.count] 33) := ⟨_, rfl⟩
  have HB1 : Hid (Below w.heap.size w w1) := Lib.hid (by rw [hw1]; exact balloc (balloc (balloc (bself w) _) _) _)
  have hs1 : w1.heap.size = w.heap.size + 1 + 1 + 1 := by rw [hw1]; simp
  have HS1 := Lib.hid hs1
  have hN1 : Blk4 w1 (w.heap.size + 1) 30 (.int .i64 0) (.slice none 0 0) (.bool false) (.slice none 0 0) := by
    rw [hw1]
    have h := (Blk4.new (w.alloc (.cells #[.int .i64 g.at_, .int .i64 g.count, .slice G g.data.length gc] 66)) 30 (.int .i64 0) (.slice none 0 0) (.bool false) (.slice none 0 0)).alloc (.cells #[.int .i64 g.at_, .int .i64 g.count] 33)
    simpa using h
  have hGB1 : BlkA w1 w.heap.size 66 #[.int .i64 g.at_, .int .i64 g.count, .slice G g.data.length gc] := by
    rw [hw1]
    exact ((BlkA.new w _ _).alloc _).alloc _
  have q0 : w1.cell? ⟨w.heap.size + 1 + 1, 0, none⟩ = some (.int .i64 g.at_) := by rw [hw1]; simp [go_sem]
  have q1 : w1.cell? ⟨w.heap.size + 1 + 1, 1, none⟩ = some (.int .i64 g.count) := by rw [hw1]; simp [go_sem]
  have c0 := (HB1.out.cell (p := ⟨F, 0, none⟩) hlF).trans hc0
  have lF1 : F < w1.heap.size := by omega
  have lG1 : w.heap.size < w1.heap.size := by omega
  have lN1 : w.heap.size + 1 < w1.heap.size := by omega
  have lW1 : w.heap.size + 1 + 1 < w1.heap.size := by omega
  have HN1 := Lib.hid hN1
  have HXB : Hid (∀ wx, Below w1.heap.size w1 wx → Below w.heap.size w wx) := Lib.hid (fun wx hb => bnext HB1.out hb)
  have HGA1 : Hid (GotAt w w1 B F s g G gc A D A c D dc) := Lib.hid ⟨HFS.out w1 HB1.out, hGB1, hG.keep fun k hk => ⟨hk, HB1.out.block k (by omega)⟩, Stays.of_below HB1.out _, Anew.refl _ _, Anew.refl _ _, by omega⟩
  clear hc0 hN1 hs1 HF HFS hGB1 h hG hlike hie
  have hidx : ft.idxI (ft.index s.out ⟨g.at_, g.count⟩) = (i : Int) := by rw [hi]; rfl
  clear hi
  rw [hidx] at HX
  clear hidx
  go_enter Try.func18, Try.ntmps18
  go_upto_region 2 with fail
  rw [← hw1]
  clear hw1
  go_region_held3 (fun w' => w'.cell? ⟨F, 0, none⟩ = some (.slice A s.out.length c) ∧ w'.cell? ⟨w.heap.size + 1 + 1, 0, none⟩ = some (.int .i64 g.at_) ∧ w'.cell? ⟨w.heap.size + 1 + 1, 1, none⟩ = some (.int .i64 g.count)) ((go_keep; done))
    (first
      | (go_at_call 37; refine (HX.out _ (HXB.out _ (by repeat (first | (with_reducible exact Below.refl _ _) | (with_reducible assumption) | (with_reducible refine bset ?_ ?_ _) | (with_reducible refine balloc ?_ _) | (with_reducible refine Below.drew ?_) | (with_reducible refine bdrewN ?_ _) | (with_reducible refine bnext ?_ (by with_reducible assumption)) | exact Nat.le_refl _ | (simp; done) | omega | (simp; omega))))).mono ?_; rintro e w2 ⟨rfl, hb2⟩; have x1 := (hb2.cell (p := ⟨F, 0, none⟩) lF1).trans c0; have x2 := (hb2.cell (p := ⟨w.heap.size + 1 + 1, 0, none⟩) lW1).trans q0; have x3 := (hb2.cell (p := ⟨w.heap.size + 1 + 1, 1, none⟩) lW1).trans q1)
      | fail)
  all_goals
    have HB2 : Hid (Below w1.heap.size w1 w2) := Lib.hid (by repeat (first | (with_reducible exact Below.refl _ _) | (with_reducible assumption) | (with_reducible refine bset ?_ ?_ _) | (with_reducible refine balloc ?_ _) | (with_reducible refine Below.drew ?_) | (with_reducible refine bdrewN ?_ _) | (with_reducible refine bnext ?_ (by with_reducible assumption)) | exact Nat.le_refl _ | (simp; done) | omega | (simp; omega)))
    have HGA2 := Lib.hid (HGA1.out.next HB2.out)
    have HN2 := Lib.hid (HN1.out.next HB2.out)
    have hl2 : w1.heap.size ≤ w2.heap.size := HB2.out.size
    clear HN1 HGA1 HX hb2 x1 x2 x3 c0 q0 q1 HXB HB1 lF1 lG1 lN1 lW1
    have y0 := HGA2.out.fet.box.cell0
    have y1 := HGA2.out.got.get 1
    have y2 := HGA2.out.got.get 2
    simp only [List.getElem?_toArray, List.getElem?_cons_succ, List.getElem?_cons_zero] at y1 y2
    go_upto_region 9 with (first
      | (go_at_call 38; refine (fetch_delete s.out i c B A _ HGA2.out.fet.out hilt (by omega)).mono ?_; rintro e w3 ⟨rfl, hO3, hS3⟩; have x0 := HGA2.out.fet.box.stays hS3 (HGA2.out.fet.box.apart HGA2.out.fet.out wantNeFet); have z0 := x0.cell0; have z00 := x0.frozen 0; have z2 := (HGA2.out.got.stays hS3 (HGA2.out.got.apart HGA2.out.fet.out gotNeWant)).get 2; simp only [List.getElem?_toArray, List.getElem?_cons_succ, List.getElem?_cons_zero] at z2; have hFG : F ≠ w.heap.size := (by omega); have hGF : w.heap.size ≠ F := (by omega); clear x0)
      | fail)
    have hE4 := HGA2.out.erase hO3 hS3
    have hN3 := HN2.out.stays hS3 (HN2.out.apart HGA2.out.fet.out wantNeNext)
    have hN4 := hN3.setCell (p := ⟨F, 0, none⟩) (show F ≠ w.heap.size + 1 by omega) (.slice A (s.out.eraseIdx i).length c)
    obtain ⟨w4, hw4⟩ : ∃ w4, w4 = w3.setCell ⟨F, 0, none⟩ (.slice A (s.out.eraseIdx i).length c) := ⟨_, rfl⟩
    rw [← hw4] at hE4 hN4
    rw [← hw4]
    have HGA4 := Lib.hid hE4
    have HN4 := Lib.hid hN4
    clear hE4 hN3 hN4 hw4 hO3 hS3 z0 z00 z2 y0 y1 y2 HGA2 HN2 HB2 hl2
    obtain ⟨a, hga⟩ : ∃ a : Nat, Hid (g.at_ = a) := ⟨g.at_.toNat, Lib.hid (by omega)⟩
    obtain ⟨m, hm⟩ : ∃ m : Nat, Hid (m = a + g.data.length - s.data.length) := ⟨_, Lib.hid rfl⟩
    have y3 := HGA4.out.fet.box.cell3
    have y0 := HGA4.out.got.get 0
    simp only [List.getElem?_toArray, List.getElem?_cons_succ, List.getElem?_cons_zero] at y0 y3
    have hw1 : IntKind.i64.wrap (g.at_ + (g.data.length : Int)) = g.at_ + (g.data.length : Int) := IntWalk.i64_in _ (by omega)
    have hw2 : IntKind.i64.wrap (g.at_ + (g.data.length : Int) - (s.data.length : Int)) = g.at_ + (g.data.length : Int) - (s.data.length : Int) := IntWalk.i64_in _ (by omega)
    go_cut [8] (fun s8 wx => s8 = .int .i64 (g.at_ + (g.data.length : Int) - (s.data.length : Int)) ∧ Hid (Below w4.heap.size w4 wx))
    case first =>
      go_quiet (fail)
      go_wp2
      go_meet
      exact ⟨rfl, Lib.hid (by repeat (first | (with_reducible exact Below.refl _ _) | (with_reducible assumption) | (with_reducible refine bset ?_ ?_ _) | (with_reducible refine balloc ?_ _) | (with_reducible refine Below.drew ?_) | (with_reducible refine bdrewN ?_ _) | (with_reducible refine bnext ?_ (by with_reducible assumption)) | exact Nat.le_refl _ | (simp; done) | omega | (simp; omega)))⟩
    case rest =>
      obtain ⟨rfl, HB5⟩ := hcut
      rename World => w5
      have HGA5 := Lib.hid (HGA4.out.next HB5.out)
      have HN5 := Lib.hid (HN4.out.next HB5.out)
      clear y0 y3 hw1 hw2 HGA4 HN4 HB5
      go_upto_if 57 with (fail)
      go_cut [] (fun wx => ∃ D1 dc1, Hid (GotAt w wx B F { s with out := s.out.eraseIdx i, data := s.data ++ List.replicate m 0 } g G gc A D A c D1 dc1) ∧ Hid (Blk4 wx (w.heap.size + 1) 30 (.int .i64 0) (.slice none 0 0) (.bool false) (.slice none 0 0)))
      case first =>
        have ea := hga.out
        have em := hm.out
        by_cases hmp : s.data.length < a + g.data.length
        · have y3 := HGA5.out.fet.box.cell3
          have hgt : 0 < g.at_ + (g.data.length : Int) - (s.data.length : Int) := by omega
          have hsm : g.at_ + (g.data.length : Int) - (s.data.length : Int) = (m : Int) := by omega
          have HSM := Lib.hid hsm
          have hm0 : 0 < m := by omega
          have hml : s.data.length + m ≤ 3000 := by omega
          clear ea em hsm
          go_wp2_with (at_builtin; refine wp_appz (z := .int .u8 0) _ rfl _ _ _ _ rfl elemU8 (by kernel_rfl) rfl rfl Try.underlying3 B D _ dc _ rfl HGA5.out.fet.data m _ rfl HSM.out hm0 (by omega) (by omega) (Nat.le_of_lt (Nat.lt_of_le_of_lt HGA5.out.fet.lo HGA5.out.fet.box.lt)) ?_; intro D1 dc1 w6 ho6 hg6; have x3 := HGA5.out.fet.box.kept hg6.grown (HGA5.out.fet.box.apart HGA5.out.fet.data u8NeFet); have z3 := x3.cell3; have z30 := x3.frozen 3; clear x3)
          go_meet
          refine ⟨D1, dc1, Lib.hid (HGA5.out.grow ho6 hg6), Lib.hid ((HN5.out.kept hg6.grown (HN5.out.apart HGA5.out.fet.data u8NeNext)).setCell (show F ≠ w.heap.size + 1 by omega) _)⟩
        · have hgt : ¬ (0 < g.at_ + (g.data.length : Int) - (s.data.length : Int)) := by omega
          have hm0 : m = 0 := by omega
          have HM0 := Lib.hid hm0
          clear ea em hm0
          go_wp2
          go_meet
          refine ⟨D, dc, Lib.hid ?_, HN5⟩
          rw [HM0.out]
          simpa using HGA5.out
      case rest =>
        obtain ⟨D1, dc1, HGA6, HN6⟩ := hcut
        rename World => w6
        obtain ⟨d1, hd1⟩ : ∃ d1 : List UInt8, Hid (d1 = s.data ++ List.replicate m 0) := ⟨_, Lib.hid rfl⟩
        have HGB6 : Hid (GotAt w w6 B F { s with out := s.out.eraseIdx i, data := d1 } g G gc A D A c D1 dc1) := Lib.hid (by rw [hd1.out]; exact HGA6.out)
        have hl1 : a + g.data.length ≤ d1.length ∧ d1.length ≤ 2148 := by
          have ea := hga.out
          have em := hm.out
          rw [hd1.out, List.length_append, List.length_replicate]
          omega
        have HPUT : Hid (d1.take a ++ g.data ++ d1.drop (a + g.data.length) = ft.put s.data g.at_.toNat g.data) := Lib.hid (by
          unfold ft.put
          rw [show g.at_.toNat = a by have := hga.out; omega, hd1.out, hm.out])
        have hcap := HGB6.out.fet.data.cap
        dsimp only at hcap
        have hcl := fun W => run_cut_l (P := Try.prog) elemU8 D1 d1.length dc1 a (by omega) g.at_ hga.out W
        have hmn : ¬ ((d1.length : Int) < g.at_) := by have := hga.out; omega
        have y3 := HGB6.out.fet.box.cell3
        have y0 := HGB6.out.got.get 0
        have y2 := HGB6.out.got.get 2
        simp only [List.getElem?_toArray, List.getElem?_cons_succ, List.getElem?_cons_zero] at y0 y2 y3
        have HOX : Hid (∀ n, Own (w6.drewN n) B 5 1 D1 d1.length dc1 (d1.map fun b => .int .u8 b.toNat)) := Lib.hid (fun n => HGB6.out.fet.data.drewN n)
        have HCX : Hid (∀ n, Cells (w6.drewN n) G (g.data.map fun b => .int .u8 b.toNat)) := Lib.hid (fun n => (HGB6.out.next (bdrewN (bself w6) n)).src.cells_u8)
        clear HGA6 hd1
        go_upto_region 12 with fail
        go_cut [] (fun wx => Hid (GotAt w wx B F { s with out := s.out.eraseIdx i, data := ft.put s.data g.at_.toNat g.data } g G gc A D A c D1 dc1) ∧ Hid (Blk4 wx (w.heap.size + 1) 30 (.int .i64 0) (.slice none 0 0) (.bool false) (.slice none 0 0)))
        case first =>
          have HLEN : Hid ((g.data.map fun b => Value.int .u8 (b.toNat : Int)).length = g.data.length) := Lib.hid (by simp)
          go_region_law
            (first
              | (refine step_copy (by rfl) _ _ _ _ (by rfl) elemU8 B D1 d1.length dc1 _ (HOX.out _) a _ _ g.data.length gc G (by rfl) (by rfl) (by omega) (by rfl) (g.data.map fun b : UInt8 => Value.int .u8 (b.toNat : Int)) HLEN.out (by omega) (HCX.out _) (oneCell_u8 _) ?_; intro w7 hO7 hg7)
              | fail)
          all_goals
            go_wp2
            go_meet
            have HO7 : Own w7 B 5 1 D1 d1.length dc1 ((ft.put s.data g.at_.toNat g.data).map fun b => .int .u8 b.toNat) := by
              rw [← HPUT.out, List.map_append, List.map_append, List.map_take, List.map_drop]
              rw [HLEN.out] at hO7
              exact hO7
            have HPL : (ft.put s.data g.at_.toNat g.data).length = d1.length := by
              rw [← HPUT.out, List.length_append, List.length_append, List.length_take, List.length_drop]
              omega
            exact ⟨Lib.hid ((HGB6.out.next (by exact (by repeat (first | (with_reducible exact Below.refl _ _) | (with_reducible assumption) | (with_reducible refine bset ?_ ?_ _) | (with_reducible refine balloc ?_ _) | (with_reducible refine Below.drew ?_) | (with_reducible refine bdrewN ?_ _) | (with_reducible refine bnext ?_ (by with_reducible assumption)) | exact Nat.le_refl _ | (simp; done) | omega | (simp; omega))))).copy HO7 HPL hg7), Lib.hid ((HN6.out.drew).kept hg7.grown (HN6.out.apart HGB6.out.fet.data u8NeNext))⟩
        case rest =>
          obtain ⟨HGA7, HN7⟩ := hcut
          rename World => w7
          clear HGB6 HN6 HPUT hcap hcl hmn y3 y0 y2 HOX HCX hl1 hm
          obtain ⟨dd, HDD⟩ : ∃ dd, Hid (dd = ft.put s.data g.at_.toNat g.data) := ⟨_, Lib.hid rfl⟩
          rw [← HDD.out] at HGA7
          have HCM : Hid (ft.came s g i = { s with out := s.out.eraseIdx i ++ ft.rest g, data := dd, end_ := ft.endOf s g }) := Lib.hid (by rw [HDD.out]; rfl)
          clear HDD
          obtain ⟨q, HQ⟩ : ∃ q, Hid (q = decide (g.data.length = 0 ∧ (s.end_ < 0 ∨ g.at_ < s.end_))) := ⟨_, Lib.hid rfl⟩
          have z2 := HGA7.out.fet.box.cell2
          have z0 := HGA7.out.got.get 0
          simp only [List.getElem?_toArray, List.getElem?_cons_succ, List.getElem?_cons_zero] at z0 z2
          go_upto_block 1 with fail
          go_cut [] (fun wx => ∃ A5 c5 A6 c6, Hid (GotAt w wx B F (ft.came s g i) g G gc A D A5 c5 D1 dc1) ∧ Hid (NexAt wx w.heap.size (w.heap.size + 1) (ft.rest g) A6 c6) ∧ Hid (Far A5 A6))
          case first =>
            go_upto_region 13 with fail
            go_cut [83] (fun s83 wx => s83 = .bool q ∧ Hid (Below w7.heap.size w7 wx))
            case first =>
              clear HGA7 HN7 HCM HGR
              by_cases hk0 : g.data.length = 0
              · have d0 : decide (g.data.length = 0) = true := decide_eq_true hk0
                have d0' : ((g.data.length : Int) == 0) = true := by rw [hk0]; rfl
                have HK0 := Lib.hid hk0
                clear hk0
                by_cases he1 : s.end_ < 0
                · have d1 : decide (s.end_ < 0) = true := decide_eq_true he1
                  have HQ2 : Hid (q = true) := Lib.hid (by rw [HQ.out]; exact decide_eq_true ⟨HK0.out, .inl he1⟩)
                  clear HQ
                  go_quiet (fail)
                  go_wp2
                  go_meet
                  exact ⟨by rw [HQ2.out], Lib.hid (by repeat (first | (with_reducible exact Below.refl _ _) | (with_reducible assumption) | (with_reducible refine bset ?_ ?_ _) | (with_reducible refine balloc ?_ _) | (with_reducible refine Below.drew ?_) | (with_reducible refine bdrewN ?_ _) | (with_reducible refine bnext ?_ (by with_reducible assumption)) | exact Nat.le_refl _ | (simp; done) | omega | (simp; omega)))⟩
                · have d1 : decide (s.end_ < 0) = false := decide_eq_false he1
                  by_cases he2 : g.at_ < s.end_
                  · have d2 : decide (g.at_ < s.end_) = true := decide_eq_true he2
                    have HQ2 : Hid (q = true) := Lib.hid (by rw [HQ.out]; exact decide_eq_true ⟨HK0.out, .inr he2⟩)
                    clear HQ
                    go_quiet (fail)
                    go_wp2
                    go_meet
                    exact ⟨by rw [HQ2.out], Lib.hid (by repeat (first | (with_reducible exact Below.refl _ _) | (with_reducible assumption) | (with_reducible refine bset ?_ ?_ _) | (with_reducible refine balloc ?_ _) | (with_reducible refine Below.drew ?_) | (with_reducible refine bdrewN ?_ _) | (with_reducible refine bnext ?_ (by with_reducible assumption)) | exact Nat.le_refl _ | (simp; done) | omega | (simp; omega)))⟩
                  · have d2 : decide (g.at_ < s.end_) = false := decide_eq_false he2
                    have HQ2 : Hid (q = false) := Lib.hid (by rw [HQ.out]; exact decide_eq_false (fun h => h.2.elim he1 he2))
                    clear HQ
                    go_quiet (fail)
                    go_wp2
                    go_meet
                    exact ⟨by rw [HQ2.out], Lib.hid (by repeat (first | (with_reducible exact Below.refl _ _) | (with_reducible assumption) | (with_reducible refine bset ?_ ?_ _) | (with_reducible refine balloc ?_ _) | (with_reducible refine Below.drew ?_) | (with_reducible refine bdrewN ?_ _) | (with_reducible refine bnext ?_ (by with_reducible assumption)) | exact Nat.le_refl _ | (simp; done) | omega | (simp; omega)))⟩
              · have d0 : decide (g.data.length = 0) = false := decide_eq_false hk0
                have d0' : ((g.data.length : Int) == 0) = false := by simpa using hk0
                have HQ2 : Hid (q = false) := Lib.hid (by rw [HQ.out]; exact decide_eq_false (fun h => hk0 h.1))
                clear HQ
                go_quiet (fail)
                go_wp2
                go_meet
                exact ⟨by rw [HQ2.out], Lib.hid (by repeat (first | (with_reducible exact Below.refl _ _) | (with_reducible assumption) | (with_reducible refine bset ?_ ?_ _) | (with_reducible refine balloc ?_ _) | (with_reducible refine Below.drew ?_) | (with_reducible refine bdrewN ?_ _) | (with_reducible refine bnext ?_ (by with_reducible assumption)) | exact Nat.le_refl _ | (simp; done) | omega | (simp; omega)))⟩
            case rest =>
              obtain ⟨rfl, HB8⟩ := hcut
              rename World => w8
              have HGA8 := Lib.hid (HGA7.out.next HB8.out)
              have HN8 := Lib.hid (HN7.out.next HB8.out)
              clear HGA7 HN7 HB8 z2 z0
              cases q with
              | true =>
                have hh := of_decide_eq_true HQ.out.symm
                have HEO : Hid (ft.endOf s g = g.at_) := Lib.hid (by unfold ft.endOf; exact if_pos hh)
                have HRE : Hid (ft.rest g = []) := Lib.hid (by unfold ft.rest; exact if_neg (fun h => by omega))
                clear hh HQ
                have z2 := HGA8.out.fet.box.cell2
                have zf := HGA8.out.fet.box.frozen 2
                have z0 := HGA8.out.got.get 0
                simp only [List.getElem?_toArray, List.getElem?_cons_succ, List.getElem?_cons_zero] at z0 z2
                go_wp2
                go_meet
                refine ⟨A, c, none, 0, Lib.hid ?_, Lib.hid ?_, Lib.hid (Far.none' _)⟩
                · rw [HCM.out, HEO.out, HRE.out, List.append_nil]
                  exact HGA8.out.end_ g.at_
                · rw [HRE.out]
                  exact ⟨by omega, HN8.out.setCell (show F ≠ w.heap.size + 1 by omega) _, Own.nil _ _ _ _⟩
              | false =>
                have HEO : Hid (ft.endOf s g = s.end_) := Lib.hid (by unfold ft.endOf; exact if_neg (of_decide_eq_false HQ.out.symm))
                clear HQ
                have z1 := HGA8.out.got.get 1
                have z0 := HGA8.out.got.get 0
                simp only [List.getElem?_toArray, List.getElem?_cons_succ, List.getElem?_cons_zero] at z0 z1
                by_cases hk : 0 < g.data.length ∧ (g.data.length : Int) < g.count
                · obtain ⟨hk1, hk2⟩ := hk
                  have d1 : decide (0 < (g.data.length : Int)) = true := decide_eq_true (by omega)
                  have d1' : decide (0 < g.data.length) = true := decide_eq_true hk1
                  have d2 : decide ((g.data.length : Int) < g.count) = true := decide_eq_true hk2
                  have HRE : Hid (ft.rest g = [⟨g.at_ + g.data.length, g.count - g.data.length⟩]) := Lib.hid (by unfold ft.rest; exact if_pos ⟨hk1, hk2⟩)
                  have hel : (s.out.eraseIdx i).length ≤ 6 := by have := List.length_eraseIdx_le s.out i; omega
                  go_wp2_with (go_at_call 33; refine (fetch_ask _ [] ⟨g.at_ + g.data.length, g.count - g.data.length⟩ A none D1 c 0 dc1 B w.heap.size F (w.heap.size + 1) _ HGA8.out.fet ⟨by omega, HN8.out, Own.nil _ _ _ _⟩ (Far.none' _) (by show (s.out.eraseIdx i).length ≤ 1000; omega) (by simp)).mono ?_; rintro e w10 ⟨rfl, A5, c5, A6, c6, e1, e2, e3, e4, e5, e6⟩)
                  go_meet
                  refine ⟨A5, c5, A6, c6, Lib.hid ?_, Lib.hid ?_, Lib.hid e3⟩
                  · rw [HCM.out, HEO.out, HRE.out]
                    refine HGA8.out.touch (e4.mono fun k _ h => ?_) e1 e5 (Anew.refl _ _)
                    rcases h with h | h | h | h
                    · exact .inl (.inl h)
                    · exact .inr h
                    · exact .inl (.inr (.inl h))
                    · cases h
                  · rw [HRE.out]
                    exact e2
                · have HRE : Hid (ft.rest g = []) := Lib.hid (by unfold ft.rest; exact if_neg hk)
                  have HEN : Hid (∀ wx, Below w8.heap.size w8 wx → ∃ A5 c5 A6 c6, Hid (GotAt w wx B F (ft.came s g i) g G gc A D A5 c5 D1 dc1) ∧ Hid (NexAt wx w.heap.size (w.heap.size + 1) (ft.rest g) A6 c6) ∧ Hid (Far A5 A6)) := Lib.hid (fun wx hb => ⟨A, c, none, 0, Lib.hid (by
                    rw [HCM.out, HEO.out, HRE.out, List.append_nil]
                    exact HGA8.out.next hb), Lib.hid (by
                    rw [HRE.out]
                    exact ⟨by omega, HN8.out.next hb, Own.nil _ _ _ _⟩), Lib.hid (Far.none' _)⟩)
                  by_cases hk1 : 0 < g.data.length
                  · have hk2 : ¬ (g.data.length : Int) < g.count := fun h => hk ⟨hk1, h⟩
                    have d1 : decide (0 < (g.data.length : Int)) = true := decide_eq_true (by omega)
                    have d1' : decide (0 < g.data.length) = true := decide_eq_true hk1
                    have d2 : decide ((g.data.length : Int) < g.count) = false := decide_eq_false hk2
                    clear hk
                    go_wp2
                    go_meet
                    exact HEN.out _ (by repeat (first | (with_reducible exact Below.refl _ _) | (with_reducible assumption) | (with_reducible refine bset ?_ ?_ _) | (with_reducible refine balloc ?_ _) | (with_reducible refine Below.drew ?_) | (with_reducible refine bdrewN ?_ _) | (with_reducible refine bnext ?_ (by with_reducible assumption)) | exact Nat.le_refl _ | (simp; done) | omega | (simp; omega)))
                  · have d1 : decide (0 < (g.data.length : Int)) = false := decide_eq_false (by omega)
                    have d1' : decide (0 < g.data.length) = false := decide_eq_false hk1
                    clear hk
                    go_wp2
                    go_meet
                    exact HEN.out _ (by repeat (first | (with_reducible exact Below.refl _ _) | (with_reducible assumption) | (with_reducible refine bset ?_ ?_ _) | (with_reducible refine balloc ?_ _) | (with_reducible refine Below.drew ?_) | (with_reducible refine bdrewN ?_ _) | (with_reducible refine bnext ?_ (by with_reducible assumption)) | exact Nat.le_refl _ | (simp; done) | omega | (simp; omega)))
          case rest =>
            obtain ⟨A5, c5, A6, c6, HGA9, HN9, HFR⟩ := hcut
            rename World => w9
            clear HGA7 HN7 HQ HCM z2 z0
            have hok : ft.Ok (ft.came s g i) := by
              obtain ⟨p1, p2, p3, p4, p5, p6, p7, p8, p9, p10⟩ := HCA.out
              exact ⟨p9, p6, ⟨p7.1, by omega⟩, by omega⟩
            have hrl : (ft.rest g).length ≤ 10 := by unfold ft.rest; split <;> simp
            have HON := Lib.hid (fetch_on (ft.came s g i) (ft.rest g) A5 A6 D1 c5 c6 dc1 B w.heap.size F (w.heap.size + 1) w9 HGA9.out.fet HN9.out HFR.out hok hrl)
            have HLN : Hid (∀ k, blkOf A6 = some k → w.heap.size ≤ k) := Lib.hid (fun k hk => (HN9.out.out.lt k hk).1)
            clear hok hrl HFR HN9
            have hl9 := HGA9.out.stay.size
            have hlD := fun k hk => (HGA9.out.fet.data.lt k hk).2
            have HLD := Lib.hid hlD
            clear hlD
            go_upto_region 18 with (first
              | (go_at_call 17; refine HON.out.mono ?_; rintro e w10 ⟨rfl, A7, c7, A8, c8, E, ec, h1, h2, h3, h4, h5, h6⟩; have H1 := Lib.hid h1; have H2 := Lib.hid h2; have H3 := Lib.hid h3; have H4 := Lib.hid h4; have H5 := Lib.hid h5; clear h1 h2 h3 h4 h5 h6)
              | fail)
            have n0 := H2.out.box.cell0
            have n1 := H2.out.box.cell1
            have n2 := H2.out.box.cell2
            have n3 := H2.out.box.cell3
            have f0 := H2.out.box.frozen 0
            have f1 := H2.out.box.frozen 1
            have f2 := H2.out.box.frozen 2
            have f3 := H2.out.box.frozen 3
            have lN : w.heap.size + 1 < w10.heap.size := H2.out.box.lt
            have HEND : Hid (∀ wf, Stays w10 wf (fun k => k = w.heap.size + 1) → GotRes w B F s g A D (.returned (.agg #[.int .i64 0, .slice A8 (ft.on (ft.came s g i) (ft.rest g)).2.wants.length c8, .bool (ft.on (ft.came s g i) (ft.rest g)).2.done, .slice E (ft.on (ft.came s g i) (ft.rest g)).2.data.length ec])) wf) := Lib.hid (fun wf hs => by
              have hF := H1.out.stays hs (fun e => H1.out.box.two H2.out.box fetNeNext e) (fun k hk e => H2.out.box.apart H1.out.out wantNeNext (e ▸ hk)) (fun k hk e => H2.out.box.apart H1.out.data u8NeNext (e ▸ hk))
              have hW := H2.out.out.stays hs (fun k hk e => H2.out.box.apart H2.out.out wantNeNext (e ▸ hk))
              have hE := H2.out.data.stays hs (fun k hk e => H2.out.box.apart H2.out.data u8NeNext (e ▸ hk))
              have hA7 : Anew w A7 A := HGA9.out.na.trans H5.out hl9
              unfold GotRes
              rw [HGR.out]
              refine ⟨A7, c7, D1, dc1, _, rfl, hF, Next.rep_iff.2 ⟨A8, c8, E, ec, rfl, ?_, ?_⟩, ?_, ?_⟩
              · refine ((Own.flat Want.cells rfl (fun S a => Want.enc wf S a) (by decide) hW).2.tight flat_want).within fun k hk => ⟨(hW.lt k hk).1, (hW.lt k hk).2, fun h => ?_⟩
                rcases h with e | e | e
                · have := (hW.lt k hk).1; omega
                · exact H3.out k e hk
                · rcases hW.two hF.data wantNeU8 with e2 | e2
                  · rw [e2] at hk; cases hk
                  · exact e2 (hk.trans e.symm)
              · refine (hE.u8.2.tight flat_u8).within fun k hk => ⟨by have := (hE.lt k hk).1; omega, (hE.lt k hk).2, fun h => ?_⟩
                have hk9 := (hE.lt k hk).1
                rcases h with e | e | e
                · omega
                · rcases hF.out.two hE wantNeU8 with e2 | e2
                  · rw [e2] at e; cases e
                  · exact e2 (e.trans hk.symm)
                · have := HLD.out k e; omega
              · refine (HGA9.out.stay.trans (H4.out.trans hs (No2 := fun k => k = w.heap.size + 1) (fun k _ h => .inr (.inl h))) fun k hk h => ?_)
                rcases h with e | e | e | e
                · exact .inl e
                · omega
                · rcases HGA9.out.na.inf e with h | h
                  · exact .inr (.inl h)
                  · omega
                · have := HLN.out k e; omega
              · intro k h
                rcases h with e | e | e
                · exact .inl (.inl e)
                · exact (hA7.inf e).imp (fun e => .inr (.inl e)) id
                · exact (HGA9.out.nd.inf e).imp (fun e => .inr (.inr e)) id)
            clear H1 H2 H3 H4 H5 HGA9 HLD HON HGR
            generalize (ft.on (ft.came s g i) (ft.rest g)).2 = nx at *
            go_wp2
            exact bodyPost_ret (v := .agg #[.int .i64 0, .slice A8 nx.wants.length c8, .bool nx.done, .slice E nx.data.length ec]) (by simp [results, Try.results18, go_sem, *]) rfl (HEND.out _ (((Stays.set _ _ _ _).comp (Stays.set _ _ _ _)).comp ((Stays.set _ _ _ _).comp (Stays.set _ _ _ _))))
end Go.Proofs.Ytdldfllllgogoaa
