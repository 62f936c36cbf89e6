/- Package ref: FetchPlayed. No condition. -/
import Derived.Test.YtdldfllllgogoaaFetchR1
namespace Go.Proofs.Ytdldfllllgogoaa
open Go.RowKit
set_option linter.unusedSimpArgs false

/-- what the reference consists of -/
def InR (B : Nat) (A : Option Addr) (k : Nat) : Prop := (B ≤ k ∧ k ≤ B + 4) ∨ blkOf A = some k
theorem InR.lt {w : World} {B : Nat} {r : ft.Ref} {A : Option Addr} {c n : Nat} (h : RefAt w B r A c n) {k : Nat} (hk : InR B A k) : B ≤ k ∧ k < w.heap.size := by
  have := h.lt
  rcases hk with e | e
  · omega
  · exact h.out.lt k e
/-- the row lies where the other one lay, or in a new block, or nowhere -/
def Newer (w : World) (A1 A : Option Addr) : Prop := ∀ k, blkOf A1 = some k → blkOf A = some k ∨ w.heap.size ≤ k
theorem Newer.refl (w : World) (A : Option Addr) : Newer w A A := fun _ h => .inl h
theorem Newer.of {w : World} {A1 A : Option Addr} (h : Anew w A1 A) : Newer w A1 A := fun _ hk => h.inf hk
theorem Newer.trans {w w1 : World} {A A1 A2 : Option Addr} (h : Newer w A1 A) (h2 : Newer w1 A2 A1) (hs : w.heap.size ≤ w1.heap.size) : Newer w A2 A := fun k hk => (h2 k hk).elim (h k) (fun h => .inr (by omega))
theorem Newer.grew {w w' : World} {A A' : Option Addr} (h : Grew w w' A A') : Newer w A' A := Newer.of (Anew.of_grew h)
theorem rgotNe1 : (33 : TypeId) ≠ 66 := by decide
/-- within a round of the reference -/
structure RNow (wr wx : World) (B : Nat) (r : ft.Ref) (A : Option Addr) (c n : Nat) (g : Got) (G : Option Addr) (gc : Nat) (A0 : Option Addr) : Prop where
  ref : RefAt wx B r A c n
  got : BlkA wx wr.heap.size 66 #[.int .i64 g.at_, .int .i64 g.count, .slice G g.data.length gc]
  src : SlRep Rep.u8 wx (· < B) g.data G gc
  stay : Stays wr wx (InR B A0)
  na : Newer wr A A0
  lo : B + 4 < wr.heap.size
theorem RNow.touch {wr wx wy : World} {B : Nat} {r r2 : ft.Ref} {A A2 : Option Addr} {c n c2 n2 : Nat} {g : Got} {G : Option Addr} {gc : Nat} {A0 : Option Addr} (h : RNow wr wx B r A c n g G gc A0) (hs : Stays wx wy (fun k => InR B A k ∨ wr.heap.size < k)) (hr : RefAt wy B r2 A2 c2 n2) (ha : Newer wx A2 A) : RNow wr wy B r2 A2 c2 n2 g G gc A0 where
  ref := hr
  got := h.got.stays hs (fun e => by
    have := h.lo
    rcases e with (e | e) | e
    · omega
    · exact h.got.apart h.ref.out rgotNe1 e
    · omega)
  src := h.src.keep fun k hk => ⟨hk, hs.block k (by have := h.ref.lt; omega) (fun e => by
    have := h.lo
    rcases e with (e | e) | e
    · omega
    · have := (h.ref.out.lt k e).1; omega
    · omega)⟩
  stay := h.stay.trans hs fun k hk e => by
    rcases e with (e | e) | e
    · exact .inl e
    · exact (h.na _ e).elim .inr (fun e => absurd hk (by omega))
    · omega
  na := h.na.trans ha h.stay.size
  lo := h.lo
theorem RNow.next {wr wx wy : World} {B : Nat} {r : ft.Ref} {A : Option Addr} {c n : Nat} {g : Got} {G : Option Addr} {gc : Nat} {A0 : Option Addr} (h : RNow wr wx B r A c n g G gc A0) (hb : Below wx.heap.size wx wy) : RNow wr wy B r A c n g G gc A0 :=
  h.touch (Stays.of_below hb _) (h.ref.next hb) (Newer.refl _ _)
theorem RefAt.newOut {w w2 : World} {B : Nat} {r : ft.Ref} {A A2 : Option Addr} {c c2 n : Nat} {o2 : List Want} (h : RefAt w B r A c n) (hb : Below w.heap.size w w2) (ho : Own w2 B 33 2 A2 o2.length c2 (wantCells o2)) : RefAt (w2.setCell ⟨B, 0, none⟩ (.slice A2 o2.length c2)) B { r with out := o2 } A2 c2 n := by
  have h2 := h.next hb
  refine ⟨?_, h2.b0.set 0 _, h2.b2.setCell (by show B ≠ B + 2; omega) _, ?_, h2.b3.setCell (by show B ≠ B + 3; omega) _, h2.b4.setCell (by show B ≠ B + 4; omega) _⟩
  · exact ho.setCell (by exact h2.b0.apart ho wantNeSl) _
  · obtain ⟨f, hm, hf⟩ := h2.map
    exact ⟨f, hm.setCell (by show B ≠ B + 1; omega) _, hf⟩
theorem RefAt.setEnd {w : World} {B : Nat} {r : ft.Ref} {A : Option Addr} {c n : Nat} (h : RefAt w B r A c n) (v : Int) : RefAt (w.setCell ⟨B + 4, 0, none⟩ (.int .i64 v)) B { r with end_ := v } A c n where
  out := h.out.setCell (by have := h.apart h.out wantNeSl wantNeMap wantNeInt (B + 4) (by omega) (by omega); exact this) _
  b0 := h.b0.setCell (by show B + 4 ≠ B; omega) _
  b2 := h.b2.setCell (by show B + 4 ≠ B + 2; omega) _
  map := let ⟨f, h1, h2⟩ := h.map; ⟨f, h1.setCell (by show B + 4 ≠ B + 1; omega) _, h2⟩
  b3 := h.b3.setCell (by show B + 4 ≠ B + 3; omega) _
  b4 := h.b4.set 0 _
theorem RefAt.putByte {w w' : World} {B : Nat} {r : ft.Ref} {A : Option Addr} {c n : Nat} {f : Int → Option Value} (h : RefAt w B r A c n) (hf : ∀ p : Int, (f p).getD (.int .u8 0) = .int .u8 ((r.byte p).toNat : Int)) (k : Int) (b : UInt8)
    (hm : MapV w' Try.prog 3 (B + 1) (n + 1) (mapPut (mapI f) (.int .i64 k) (.int .u8 (b.toNat : Int)))) (hg : w.grownBy w' (some (B + 1))) : RefAt w' B { r with byte := fun p => if p = k then b else r.byte p } A c (n + 1) := by
  have hs : Stays w w' (fun j => j = B + 1) := ⟨hg.os, hg.tape, hg.output, hg.size, fun j hj hn => hg.block j hj (fun e => hn (by cases e; rfl))⟩
  obtain ⟨f0, hm0, _⟩ := h.map
  refine ⟨h.out.stays hs (fun k hk e => hm0.apart h.out (e ▸ hk)), h.b0.stays hs (by omega), h.b2.stays hs (by omega), ?_, h.b3.stays hs (by omega), h.b4.stays hs (by omega)⟩
  rw [mapI_put] at hm
  refine ⟨_, hm, fun p => ?_⟩
  dsimp only
  by_cases hp : p = k
  · rw [if_pos hp, if_pos hp]; rfl
  · rw [if_neg hp, if_neg hp]; exact hf p
theorem ft.index_take (l : List Want) (x : Want) (j : Nat) (h : j < l.length) : ft.index (l.take (j + 1)) x = match ft.index (l.take j) x with | some i => some i | none => if l.getD j ⟨0, 0⟩ = x then some j else none := by
  unfold ft.index
  rw [List.take_succ_eq_append_getElem h, List.findIdx?_append, List.getD_eq_getElem?_getD, List.getElem?_eq_getElem h]
  cases hh : (l.take j).findIdx? (· == x) with
  | some i => rfl
  | none =>
    by_cases hx : l[j] = x
    · have : (l[j] == x) = true := by simpa using hx
      simp [this, hx, List.length_take, Nat.min_eq_left (Nat.le_of_lt h)]
    · have : (l[j] == x) = false := by simpa using hx
      simp [this, hx]
theorem ft.index_lt {l : List Want} {x : Want} {i : Nat} (h : ft.index l x = some i) : i < l.length := (ft.index_some h).1
theorem ft.putR_step (f : Int → UInt8) (at_ : Int) (b : List UInt8) (j : Nat) (h : j < b.length) : (fun p => if p = at_ + j then b.getD j 0 else ft.putR f at_ (b.take j) p) = ft.putR f at_ (b.take (j + 1)) := by
  funext p
  unfold ft.putR
  rw [List.length_take, List.length_take, Nat.min_eq_left (by omega), Nat.min_eq_left (by omega)]
  by_cases hp : p = at_ + j
  · rw [if_pos hp, if_pos (by omega), hp, show (at_ + (j : Int) - at_).toNat = j by omega]
    simp only [List.getD_eq_getElem?_getD]
    rw [List.getElem?_take, if_pos (by omega)]
  · rw [if_neg hp]
    by_cases hr : at_ ≤ p ∧ p < at_ + j
    · rw [if_pos (by omega), if_pos (by omega)]
      simp only [List.getD_eq_getElem?_getD]
      rw [List.getElem?_take, List.getElem?_take, if_pos (by omega), if_pos (by omega)]
    · rw [if_neg (by omega), if_neg (by omega)]
theorem ft.putR_zero (f : Int → UInt8) (at_ : Int) (b : List UInt8) : ft.putR f at_ (b.take 0) = f := by
  funext p
  unfold ft.putR
  rw [if_neg (by simp)]
theorem ft.gotR_none {s : ft.Ref} {g : Got} (h : ft.index s.out ⟨g.at_, g.count⟩ = none) : ft.gotR s g = (s, ⟨7, [], false, []⟩) := by unfold ft.gotR; rw [h]
theorem ft.gotR_size {s : ft.Ref} {g : Got} {i : Nat} (h : ft.index s.out ⟨g.at_, g.count⟩ = some i) (hc : g.count < g.data.length) : ft.gotR s g = (s, ⟨1, [], false, []⟩) := by unfold ft.gotR; rw [h]; exact if_pos hc
theorem ft.gotR_ok {s : ft.Ref} {g : Got} {i : Nat} (h : ft.index s.out ⟨g.at_, g.count⟩ = some i) (hc : ¬ g.count < g.data.length) : ft.gotR s g = ft.onR (ft.cameR s g i) (ft.rest g) := by unfold ft.gotR; rw [h]; exact if_neg hc
theorem ft.okR_of {s : ft.Ref} (h : ∃ s0, ft.Like s0 s) : ft.OkR s := by
  obtain ⟨s0, h⟩ := h
  refine ⟨by rw [h.out]; exact h.few, by rw [h.front]; exact h.f0, ?_⟩
  have h1 := h.end_
  have h2 := h.e0
  have h3 := h.f0
  by_cases he : s0.end_ < 0
  · rw [if_pos he] at h1; rw [h1]; exact ⟨by unfold ft.never; omega, .inr rfl⟩
  · rw [if_neg he] at h1; rw [h1]; exact ⟨by omega, .inl (by omega)⟩

set_option maxHeartbeats 400000 in
theorem ref_Fetch_long (n c : Nat) (A : Option Addr) (w : World) (h : 300 < n) (hn : n ≤ 140737488351232) :
    Calls Try.prog 8 #[.slice A n c] w fun e w' => e = .returned (.tuple #[.slice none 0 0, .int .i64 1]) ∧ w = w' := by
  go_enter Try.func8, Try.ntmps8
  go_wp2
  go_ret2
  exact ⟨rfl, rfl⟩
set_option maxRecDepth 100000 in
set_option maxHeartbeats 8000000 in
theorem ref_Fetch_ok (l : List Got) (A : Option Addr) (c : Nat) (w : World) (hl : SlRep Got.rep w (· < w.heap.size) l A c) (hlen : l.length ≤ 300) (hd : ∀ g ∈ l, g.data.length ≤ 140737488351232) :
    Calls Try.prog 8 #[.slice A l.length c] w (NextsRes (ft.playR l) w) := by
  have HL := Lib.hid hl
  have HP : Hid (ft.playR l = .ok (ft.playFromR (ft.onR ft.startR []).1 [(ft.onR ft.startR []).2] l)) := Lib.hid (by unfold ft.playR; rw [if_neg (by omega)])
  have HD : Hid (∀ k, k < l.length → (l.getD k ft.zg).data.length ≤ 140737488351232) := Lib.hid (fun k hk => hd _ (by rw [List.getD_eq_getElem?_getD, List.getElem?_eq_getElem hk]; exact List.getElem_mem hk))
  clear hl hd
  obtain ⟨w1, hw1⟩ : ∃ w1, w1 = ((((w.alloc (.cells #[.slice none 0 0] 27)).alloc (.map #[] 0)).alloc (.cells #[.map (some (w.heap.size + 1))] 68)).alloc (.cells #[.int .i64 0] 3)).alloc (.cells #[.int .i64 1099511627776] 3) := ⟨_, rfl⟩
  have HB1 : Hid (Below w.heap.size w w1) := Lib.hid (by rw [hw1]; exact balloc (balloc (balloc (balloc (balloc (bself w) _) _) _) _) _)
  have HR1 : Hid (RefAt w1 w.heap.size ft.startR none 0 0) := Lib.hid (by
    rw [hw1]
    have m1 := ((MapV.made (w.alloc (.cells #[.slice none 0 0] 27)) Try.prog 3).alloc (.cells #[.map (some (w.heap.size + 1))] 68)).alloc (.cells #[.int .i64 0] 3) |>.alloc (.cells #[.int .i64 1099511627776] 3)
    have b2 := ((BlkA.new ((w.alloc (.cells #[.slice none 0 0] 27)).alloc (.map #[] 0)) 68 #[.map (some (w.heap.size + 1))]).alloc (.cells #[.int .i64 0] 3)).alloc (.cells #[.int .i64 1099511627776] 3)
    have b3 := (BlkA.new (((w.alloc (.cells #[.slice none 0 0] 27)).alloc (.map #[] 0)).alloc (.cells #[.map (some (w.heap.size + 1))] 68)) 3 #[.int .i64 0]).alloc (.cells #[.int .i64 1099511627776] 3)
    have b4 := BlkA.new ((((w.alloc (.cells #[.slice none 0 0] 27)).alloc (.map #[] 0)).alloc (.cells #[.map (some (w.heap.size + 1))] 68)).alloc (.cells #[.int .i64 0] 3)) 3 #[.int .i64 1099511627776]
    rw [mapI_none] at m1
    simp only [World.size_alloc] at m1 b2 b3 b4
    exact ⟨Own.nil _ _ _ _, ((((BlkA.new w _ _).alloc _).alloc _).alloc _).alloc _, b2, ⟨_, m1, fun p => rfl⟩, b3, b4⟩)
  have HON := Lib.hid (ref_on ft.startR [] none none 0 0 0 w.heap.size w.heap.size w1 HR1.out (Own.nil _ _ _ _) HB1.out.size (Far.none' _) (ft.okR_of ⟨_, ft.start_like⟩) (by simp))
  have hs1 : w1.heap.size = w.heap.size + 1 + 1 + 1 + 1 + 1 := by rw [hw1]; simp
  have HS1 := Lib.hid hs1
  have hmm := @run_makeMap Try.prog
  clear hs1 HR1
  go_enter Try.func8, Try.ntmps8
  go_upto_region 9 with (first
    | (go_at_call 19; rw [← hw1]; refine HON.out.mono ?_; rintro e w2 ⟨A1, c1, cs, rfl, h1, h2, h3, h4⟩; obtain ⟨Aw, cw, Ad, cd, rfl, h5, h6⟩ := Next.rep_iff.1 h2; have H1 := Lib.hid h1; have H2 := Lib.hid h2; have H3 := Lib.hid h3; have H4 := Lib.hid h4; clear h1 h2 h3 h4 h5 h6)
    | fail)
  have HX0 : Hid (Coll Next.rep (w2.alloc (.cells #[.int .i64 0, .slice Aw (ft.onR ft.startR []).2.wants.length cw, .bool (ft.onR ft.startR []).2.done, .slice Ad (ft.onR ft.startR []).2.data.length cd] 30)) w.heap.size 30 4 (some ⟨w2.heap.size, 0, none⟩) 1 1 (InR w.heap.size A1) [(ft.onR ft.startR []).2] [.int .i64 0, .slice Aw (ft.onR ft.startR []).2.wants.length cw, .bool (ft.onR ft.startR []).2.done, .slice Ad (ft.onR ft.startR []).2.data.length cd] ∧ RefAt (w2.alloc (.cells #[.int .i64 0, .slice Aw (ft.onR ft.startR []).2.wants.length cw, .bool (ft.onR ft.startR []).2.done, .slice Ad (ft.onR ft.startR []).2.data.length cd] 30)) w.heap.size (ft.onR ft.startR []).1 A1 c1 0 ∧ Below w.heap.size w (w2.alloc (.cells #[.int .i64 0, .slice Aw (ft.onR ft.startR []).2.wants.length cw, .bool (ft.onR ft.startR []).2.done, .slice Ad (ft.onR ft.startR []).2.data.length cd] 30))) := Lib.hid (by
    have hs := HS1.out
    have hl2 : w1.heap.size ≤ w2.heap.size := H3.out.size
    refine ⟨?_, H1.out.next (balloc (bself w2) _), balloc (HB1.out.trans (H3.out.below (by omega) (fun k h => by
      rcases h with h | h | h | h
      · omega
      · omega
      · cases h
      · cases h))) _⟩
    exact (Coll.nil (R := Next.rep) w2 w.heap.size 30 4 (InR w.heap.size A1)).push (a := (ft.onR ft.startR []).2) (Next.rep.mono H2.out (fun k hk => ⟨⟨hk.1, hk.2.1, (fun e => by cases e), fun e => by
      rcases e with e | e
      · rcases hk.2.2.1 with h | h
        · omega
        · cases h
      · exact hk.2.2.2 e⟩, rfl⟩)) (Below.refl _ _) (Grew.first w2 _) (Own.lit w2 w.heap.size 30 4 1 _ (by omega) (by simp) (by decide)) (fun k hk => (InR.lt H1.out hk).2))
  have HLK : Hid (∃ s0, ft.Like s0 (ft.onR ft.startR []).1) := Lib.hid ⟨_, (ft.on_like ft.start_like []).1⟩
  clear H1 H2 H3 H4 HB1 HS1 HON hmm
  have hcode : (ft.onR ft.startR []).2.code = 0 := rfl
  try rw [hcode]
  clear hcode
  generalize (ft.onR ft.startR []).1 = r0 at *
  generalize (ft.onR ft.startR []).2 = x0 at *
  go_wp2
  go_loopw [9, 30] (fun out i wr => ∃ (k : Nat) (Ao : Option Addr) (co : Nat) (L : List Next) (xs : List Value) (r' : ft.Ref) (A3 : Option Addr) (c3 n3 : Nat), k ≤ l.length ∧ i = .int .i64 k ∧ out = .slice Ao (k + 1) co ∧ Hid (L.length = k + 1 ∧ RefAt wr w.heap.size r' A3 c3 n3 ∧ n3 ≤ 100 * k ∧ (∃ s0, ft.Like s0 r') ∧ Coll Next.rep wr w.heap.size 30 4 Ao (k + 1) co (InR w.heap.size A3) L xs ∧ ft.playFromR r' L (l.drop k) = ft.playFromR r0 [x0] l ∧ Below w.heap.size w wr)) (fun _ i _ => l.length - (intOf i).toNat)
  case atStart => exact ⟨0, _, 1, _, _, r0, A1, c1, 0, by omega, rfl, rfl, Lib.hid ⟨rfl, HX0.out.2.1, by omega, HLK.out, HX0.out.1, rfl, HX0.out.2.2⟩⟩
  case round =>
    clear HX0 HLK
    obtain ⟨k, Ao, co, L, xs, r', A3, c3, n3, hk, rfl, rfl, HR⟩ := hrel
    rename World => wr
    obtain ⟨hLl, hF, hn3, hlk, hC, hpl, hB⟩ := HR.out
    by_cases hlt : k < l.length
    · obtain ⟨b, o, rfl, hb, G, gc, e0, e1, e2, hg⟩ := Got.cells_at ft.zg (HL.out.below hB) hlt
      have hlt' : (k : Int) < (l.length : Int) := by omega
      have hbr : b < wr.heap.size := Nat.lt_of_lt_of_le hb hB.size
      have hdl := HD.out k hlt
      have HPL : Hid (ft.playFromR (ft.gotR r' (l.getD k ft.zg)).1 (L ++ [(ft.gotR r' (l.getD k ft.zg)).2]) (l.drop (k + 1)) = ft.playFromR r0 [x0] l) := Lib.hid (by rw [← hpl, drop_getD l ft.zg hlt]; rfl)
      have HGL := Lib.hid hg
      have HF := Lib.hid hF
      have HLK := Lib.hid hlk
      have HC := Lib.hid hC
      have HB := Lib.hid hB
      have HLL := Lib.hid hLl
      have hsz : w.heap.size ≤ wr.heap.size := hB.size
      have hlB : w.heap.size + 4 < wr.heap.size := hF.lt
      clear hg hF hlk hC hpl hB HR HL HD hLl
      generalize l.getD k ft.zg = g at *
      obtain ⟨w3, hw3⟩ : ∃ w3, w3 = wr.alloc (.cells #[.int .i64 g.at_, .int .i64 g.count, .slice G g.data.length gc] 66) := ⟨_, rfl⟩
      have HB3 : Hid (Below wr.heap.size wr w3) := Lib.hid (by rw [hw3]; exact balloc (bself _) _)
      have HRN3 : Hid (RNow wr w3 w.heap.size r' A3 c3 n3 g G gc A3) := Lib.hid ⟨HF.out.next HB3.out, by rw [hw3]; exact BlkA.new wr _ _, HGL.out.keep fun q hq => ⟨hq, HB3.out.block q (by omega)⟩, Stays.of_below HB3.out _, Newer.refl _ _, hlB⟩
      go_upto_region 13 with fail
      rw [← hw3]
      clear hw3
      have hc0 := HRN3.out.ref.b0.get 0
      simp only [List.getElem?_toArray, List.getElem?_cons_succ, List.getElem?_cons_zero] at hc0
      have hfew := (ft.okR_of HLK.out).few
      go_upto_block 2 with fail
      go_cut [12] (fun s12 wx => s12 = .int .i64 (ft.idxI (ft.index r'.out ⟨g.at_, g.count⟩)) ∧ Hid (Below w3.heap.size w3 wx))
      case first =>
        clear HPL HP HC HB HLL HLK
        go_wp2
        go_loopw [12, 36] (fun a i wx => ∃ j : Nat, j ≤ r'.out.length ∧ i = .int .i64 j ∧ a = .int .i64 (ft.idxI (ft.index (r'.out.take j) ⟨g.at_, g.count⟩)) ∧ Hid (Below w3.heap.size w3 wx)) (fun _ i _ => r'.out.length - (intOf i).toNat)
        case atStart => exact ⟨0, by omega, rfl, rfl, Lib.hid (Below.refl _ _)⟩
        case round =>
          obtain ⟨j, hj, rfl, rfl, HBX⟩ := hrel
          rename World => wx
          by_cases hjl : j < r'.out.length
          · obtain ⟨gg, rfl, hg0, hg1, x0', x1'⟩ := want_at (HRN3.out.next HBX.out).ref.out hjl
            have hjl' : (j : Int) < (r'.out.length : Int) := by omega
            have hgx := (HRN3.out.next HBX.out).got
            have z0 := hgx.get 0
            have z1 := hgx.get 1
            simp only [List.getElem?_toArray, List.getElem?_cons_succ, List.getElem?_cons_zero] at z0 z1
            have hlg := hgx.lt
            have HS := Lib.hid (ft.index_take r'.out ⟨g.at_, g.count⟩ j hjl)
            clear hgx hc0
            generalize r'.out.getD j ⟨0, 0⟩ = y at *
            generalize ft.index (r'.out.take j) ⟨g.at_, g.count⟩ = oj at *
            have HYE : Hid (y = ⟨g.at_, g.count⟩ ↔ y.at_ = g.at_ ∧ y.count = g.count) := Lib.hid ⟨fun h => by rw [h]; exact ⟨rfl, rfl⟩, fun ⟨a, b⟩ => by cases y; simp_all⟩
            by_cases ha : y.at_ = g.at_
            · have HA := Lib.hid ha
              have da : decide (y.at_ = g.at_) = true := decide_eq_true ha
              have da' : (y.at_ == g.at_) = true := by simpa using ha
              clear ha
              by_cases hcc : y.count = g.count
              · have HCC := Lib.hid hcc
                have dc : decide (y.count = g.count) = true := decide_eq_true hcc
                have dc' : (y.count == g.count) = true := by simpa using hcc
                clear hcc
                cases oj with
                | none =>
                  have HS2 : Hid (ft.index (r'.out.take (j + 1)) ⟨g.at_, g.count⟩ = some j) := Lib.hid (by rw [HS.out]; exact if_pos (HYE.out.2 ⟨HA.out, HCC.out⟩))
                  simp only [ft.idxI]
                  go_wp2
                  go_roundw
                  case rel => exact ⟨j + 1, by omega, by go_num, by rw [HS2.out], Lib.hid (balloc HBX.out _)⟩
                  case measure => simp [intOf]; omega
                | some q =>
                  have HS2 : Hid (ft.index (r'.out.take (j + 1)) ⟨g.at_, g.count⟩ = some q) := Lib.hid (by rw [HS.out])
                  simp only [ft.idxI]
                  have dq : ¬ ((q : Int) < 0) := by omega
                  go_wp2
                  go_roundw
                  case rel => exact ⟨j + 1, by omega, by go_num, by rw [HS2.out], Lib.hid (balloc HBX.out _)⟩
                  case measure => simp [intOf]; omega
              · have dc : decide (y.count = g.count) = false := decide_eq_false hcc
                have dc' : (y.count == g.count) = false := by simpa using hcc
                have HS2 : Hid (ft.index (r'.out.take (j + 1)) ⟨g.at_, g.count⟩ = oj) := Lib.hid (by
                  rw [HS.out]
                  cases oj with
                  | some q => rfl
                  | none => exact if_neg (fun h => hcc (HYE.out.1 h).2))
                go_wp2
                go_roundw
                case rel => exact ⟨j + 1, by omega, by go_num, by rw [HS2.out], Lib.hid (balloc HBX.out _)⟩
                case measure => simp [intOf]; omega
            · have da : decide (y.at_ = g.at_) = false := decide_eq_false ha
              have da' : (y.at_ == g.at_) = false := by simpa using ha
              have HS2 : Hid (ft.index (r'.out.take (j + 1)) ⟨g.at_, g.count⟩ = oj) := Lib.hid (by
                rw [HS.out]
                cases oj with
                | some q => rfl
                | none => exact if_neg (fun h => ha (HYE.out.1 h).1))
              go_wp2
              go_roundw
              case rel => exact ⟨j + 1, by omega, by go_num, by rw [HS2.out], Lib.hid (balloc HBX.out _)⟩
              case measure => simp [intOf]; omega
          · obtain rfl : j = r'.out.length := by omega
            have HT : Hid (r'.out.take r'.out.length = r'.out) := Lib.hid (List.take_length)
            clear hc0
            go_wp2
            go_meet
            exact ⟨by rw [HT.out], HBX⟩
      case rest =>
        obtain ⟨rfl, HB4⟩ := hcut
        rename World => w4
        have HRN4 := Lib.hid (HRN3.out.next HB4.out)
        have hl4 : wr.heap.size < w4.heap.size := HRN4.out.got.lt
        clear HRN3 hc0 HB3 HB4 HGL
        have HPU : Hid (∀ er, ft.gotR r' g = (r', ⟨er, [], false, []⟩) → ∀ w6 A6 c6, Grew (w4.alloc (.cells #[.int .i64 er, .slice none 0 0, .bool false, .slice none 0 0] 30)) w6 Ao A6 → Own w6 w.heap.size 30 4 A6 (k + 1 + 1) c6 (xs ++ [.int .i64 er, .slice none 0 0, .bool false, .slice none 0 0]) →
            ∃ (k' : Nat) (Ao : Option Addr) (co : Nat) (L : List Next) (xs : List Value) (r' : ft.Ref) (A3 : Option Addr) (c3 n3 : Nat), k' ≤ l.length ∧ Value.int .i64 ((k : Int) + 1) = .int .i64 k' ∧ Value.slice A6 (k + 1 + 1) c6 = .slice Ao (k' + 1) co ∧ Hid (L.length = k' + 1 ∧ RefAt w6 w.heap.size r' A3 c3 n3 ∧ n3 ≤ 100 * k' ∧ (∃ s0, ft.Like s0 r') ∧ Coll Next.rep w6 w.heap.size 30 4 Ao (k' + 1) co (InR w.heap.size A3) L xs ∧ ft.playFromR r' L (l.drop k') = ft.playFromR r0 [x0] l ∧ Below w.heap.size w w6)) := Lib.hid (fun er hg w6 A6 c6 hgw ho => by
          have hC4 : Coll Next.rep w4 w.heap.size 30 4 Ao (k + 1) co (InR w.heap.size A3) L xs := HC.out.stays HRN4.out.stay (fun _ h => .inl h)
          have hb4 : Below w.heap.size w w4 := HB.out.trans ⟨HRN4.out.stay.os, HRN4.out.stay.tape, HRN4.out.stay.output, HRN4.out.stay.size, fun q hq => HRN4.out.stay.block q (by omega) (fun e => by have := (InR.lt HF.out e).1; omega)⟩
          refine ⟨k + 1, A6, c6, _, _, r', A3, c3, n3, by omega, by go_num, rfl, Lib.hid ⟨?_, ?_, by omega, HLK.out, hC4.push (next_lit _ _ er) (balloc (bself w4) _) hgw ho (fun q hq => (InR.lt HRN4.out.ref hq).2), ?_, ?_⟩⟩
          · rw [List.length_append, HLL.out]; rfl
          · refine HRN4.out.ref.stays ((Stays.of_below (balloc (bself w4) _) (fun j => blkOf Ao = some j)).comp (Stays.grew hgw)) (fun q h1 h2 e => hC4.far q e (.inl ⟨h1, h2⟩)) (fun q h1 e => hC4.far q e (.inr h1))
          · have h := HPL.out
            rw [hg] at h
            exact h
          · exact (balloc hb4 _).trans (hgw.below (by simp only [World.size_alloc]; omega) (fun q hq => (hC4.own.lt q hq).1)))
        have HCO : Hid (Own w4 w.heap.size 30 4 Ao (k + 1) co xs) := Lib.hid (HC.out.stays HRN4.out.stay (fun _ h => .inl h) : Coll Next.rep w4 w.heap.size 30 4 Ao (k + 1) co (InR w.heap.size A3) L xs).own
        cases hix : ft.index r'.out ⟨g.at_, g.count⟩ with
        | none =>
          have HG := Lib.hid (HPU.out 7 (ft.gotR_none hix))
          clear HPU HPL HRN4 hix
          simp only [ft.idxI]
          go_wp2_with (at_builtin; refine wp_app _ rfl _ _ _ rfl elemNext w.heap.size Ao (k + 1) co xs rfl (HCO.out.alloc _) _ 1 1 [_, _, _, _] rfl rfl (Cells.newAt _ _ _ rfl) (by simp [Value.oneCell']) (by omega) (by unfold maxLen; omega) (by simp only [World.size_alloc]; omega) ?_; intro A6 c6 w6 hO6 hg6; have HE := Lib.hid (HG.out w6 A6 c6 hg6 hO6); clear hO6 hg6)
          go_roundw
          case rel => exact HE.out
          case measure => simp [intOf]; omega
        | some ix =>
          by_cases hcs : g.count < g.data.length
          · have HG := Lib.hid (HPU.out 1 (ft.gotR_size hix hcs))
            have z1 := HRN4.out.got.get 1
            have z2 := HRN4.out.got.get 2
            simp only [List.getElem?_toArray, List.getElem?_cons_succ, List.getElem?_cons_zero] at z1 z2
            clear HPU HPL HRN4 hix
            simp only [ft.idxI]
            have dq : ¬ ((ix : Int) < 0) := by omega
            go_wp2_with (at_builtin; refine wp_app _ rfl _ _ _ rfl elemNext w.heap.size Ao (k + 1) co xs rfl (HCO.out.alloc _) _ 1 1 [_, _, _, _] rfl rfl (Cells.newAt _ _ _ rfl) (by simp [Value.oneCell']) (by omega) (by unfold maxLen; omega) (by simp only [World.size_alloc]; omega) ?_; intro A6 c6 w6 hO6 hg6; have HE := Lib.hid (HG.out w6 A6 c6 hg6 hO6); clear hO6 hg6)
            go_roundw
            case rel => exact HE.out
            case measure => simp [intOf]; omega
          · clear HPU
            have HGR : Hid (ft.gotR r' g = ft.onR (ft.cameR r' g ix) (ft.rest g)) := Lib.hid (ft.gotR_ok hix hcs)
            have hilt := ft.index_lt hix
            have HLK2 : Hid (∃ s0, ft.Like s0 (ft.cameR r' g ix)) := Lib.hid (by
              obtain ⟨s0, hs0⟩ := HLK.out
              exact ⟨_, ft.came_like hs0 g (by rw [← hs0.out]; exact hix) hcs⟩)
            have hwant : 0 ≤ g.at_ ∧ 1 ≤ g.count ∧ g.count ≤ 100 ∧ g.at_ + g.count ≤ 2148 := by
              obtain ⟨s0, hs0⟩ := HLK.out
              obtain ⟨h1, h2⟩ := ft.index_some hix
              obtain ⟨v1, v2, v3, v4⟩ := hs0.wants ⟨g.at_, g.count⟩ (by rw [← h2, ← hs0.out]; exact List.getElem_mem h1)
              dsimp only at v1 v2 v3 v4
              have := hs0.f0
              omega
            have hcn : (g.data.length : Int) ≤ g.count := by omega
            clear hix hcs
            simp only [ft.idxI]
            have dq : ¬ ((ix : Int) < 0) := by omega
            have z1 := HRN4.out.got.get 1
            have z2 := HRN4.out.got.get 2
            simp only [List.getElem?_toArray, List.getElem?_cons_succ, List.getElem?_cons_zero] at z1 z2
            go_upto_region 23 with fail
            go_cut [] (fun wx => ∃ A5 c5, Hid (RNow wr wx w.heap.size { r' with out := r'.out.eraseIdx ix } A5 c5 n3 g G gc A3))
            case first =>
              have hc0 := HRN4.out.ref.b0.get 0
              have hf0 := HRN4.out.ref.b0.frozen 0
              simp only [List.getElem?_toArray, List.getElem?_cons_succ, List.getElem?_cons_zero] at hc0
              have hcap := HRN4.out.ref.out.cap
              have HO4 := Lib.hid HRN4.out.ref.out
              have HT1 : Hid (∀ wx, Below w4.heap.size w4 wx → Cells wx A3 (wantCells (r'.out.take ix))) := Lib.hid (fun wx hb => by rw [← wantCells_take]; exact ((HO4.out.next hb).cells).take _)
              have HT2 : Hid (∀ wx, Below w4.heap.size w4 wx → Cells wx (cutA A3 c3 (ix + 1) 2) (wantCells (r'.out.drop (ix + 1)))) := Lib.hid (fun wx hb => by
                have h := ((Own.flat Want.cells rfl (fun S a => Want.enc wx S a) (by decide) (HO4.out.next hb)).2.drop (f := ix + 1) (by omega)).cells_flat Want.cells rfl (fun a cs h => Want.rep_iff.1 h) (fun a => rfl) (by decide)
                exact h)
              have HL1 : Hid ((wantCells (r'.out.take ix)).length = ix * 2) := Lib.hid (by rw [wantCells_len, List.length_take, Nat.min_eq_left (by omega)])
              have HL2 : Hid ((wantCells (r'.out.drop (ix + 1))).length = (r'.out.length - (ix + 1)) * 2) := Lib.hid (by rw [wantCells_len, List.length_drop])
              have HE : Hid (wantCells (r'.out.take ix) ++ wantCells (r'.out.drop (ix + 1)) = wantCells (r'.out.eraseIdx ix) ∧ ix + (r'.out.length - (ix + 1)) = (r'.out.eraseIdx ix).length) := Lib.hid ⟨by rw [← wantCells_app, ← List.eraseIdx_eq_take_drop_succ], by rw [List.length_eraseIdx, if_pos hilt]; omega⟩
              have hch := fun W => run_cut_h (P := Try.prog) elemWant A3 r'.out.length c3 ix (by omega) (ix : Int) rfl W
              have hcl := fun W => run_cut_l (P := Try.prog) elemWant A3 r'.out.length c3 (ix + 1) (by omega) ((ix : Int) + 1) (by omega) W
              have hw1 : IntKind.i64.wrap ((ix : Int) + 1) = (ix : Int) + 1 := IntWalk.i64_in _ (by omega)
              have hil : (ix : Int) < (r'.out.length : Int) := by omega
              have hil1 : (ix : Int) + 1 ≤ (r'.out.length : Int) := by omega
              have hic : (ix : Int) ≤ (c3 : Int) := by omega
              have hi0 : (0 : Int) ≤ (ix : Int) + 1 := by omega
              have hBL : w.heap.size < w4.heap.size := by omega
              clear HPL HP HC HB HLL HLK HGR HLK2 z1 z2 HCO
              go_region_law
                (first
                  | (refine step_app _ (by rfl) _ _ _ (by rfl) elemWant w.heap.size none 0 0 [] (by rfl) (Own.nil _ _ _ _) A3 ix c3 (wantCells (r'.out.take ix)) (by rfl) HL1.out (HT1.out _ (by exact (by repeat (first | (with_reducible exact Below.refl _ _) | (with_reducible assumption) | (with_reducible refine bset ?_ ?_ _) | (with_reducible refine balloc ?_ _) | (with_reducible refine Below.drew ?_) | (with_reducible refine bdrewN ?_ _) | (with_reducible refine bnext ?_ (by with_reducible assumption)) | exact Nat.le_refl _ | (simp; done) | omega | (simp; omega))))) (oneCell_want _) (by omega) (by unfold maxLen; omega) (by exact Nat.le_of_lt hBL) ?_; intro A5 c5 w5 hO5 hg5; simp only [Nat.zero_add, List.nil_append] at hO5; have hb5 : Below w4.heap.size w4 w5 := (bdrewN (bself w4) _).trans (hg5.below (by exact Nat.le_refl _) (fun q hq => by cases hq)); have j1 := (hb5.cell (p := ⟨w.heap.size, 0, none⟩) hBL).trans hc0)
                  | (refine step_app _ (by rfl) _ _ _ (by rfl) elemWant w.heap.size A5 ix c5 _ (by rfl) (by first | exact hO5 | exact hO5.drewN _) (cutA A3 c3 (ix + 1) 2) (r'.out.length - (ix + 1)) (c3 - (ix + 1)) (wantCells (r'.out.drop (ix + 1))) (by rfl) HL2.out (HT2.out _ (by first | exact hb5 | exact bdrewN hb5 _)) (oneCell_want _) (by omega) (by unfold maxLen; omega) (by exact Nat.le_of_lt (Nat.lt_of_lt_of_le hBL hb5.size)) ?_; intro A6 c6 w6 hO6 hg6; have hA5 : ∀ q, blkOf A5 = some q → w4.heap.size ≤ q := (fun q hq => hg5.blk.elim (fun e => by rw [e] at hq; cases hq) (fun ⟨z, hz, e⟩ => by rw [e] at hq; cases hq; exact hz)); have hb6 : Below w4.heap.size w4 w6 := (by first | exact hb5.trans (hg6.below hb5.size hA5) | exact (bdrewN hb5 _).trans (hg6.below (by exact hb5.size) hA5)); have k1 := (hb6.cell (p := ⟨w.heap.size, 0, none⟩) hBL).trans hc0; have k2 := (hb6.frozen (p := ⟨w.heap.size, 0, none⟩) hBL).trans hf0)
                  | fail)
              all_goals
                go_wp2
                go_meet
                have hO7 : Own w6 w.heap.size 33 2 A6 (r'.out.eraseIdx ix).length c6 (wantCells (r'.out.eraseIdx ix)) := by
                  rw [← HE.out.1, ← HE.out.2]; exact hO6
                refine ⟨A6, c6, Lib.hid ?_⟩
                rw [HE.out.2]
                refine HRN4.out.touch (((Stays.of_below hb6 (fun j => InR w.heap.size A3 j ∨ wr.heap.size < j))).comp ((Stays.set _ _ _ _).mono fun q _ h => .inl (.inl (by omega)))) (HRN4.out.ref.newOut hb6 hO7) (fun q hq => .inr ?_)
                rcases hg6.blk with e | ⟨z, hz, e⟩
                · exact hA5 q (e ▸ hq)
                · rw [e] at hq; cases hq
                  exact Nat.le_trans hb5.size hz
            case rest =>
              obtain ⟨A5, c5, HRN5⟩ := hcut
              rename World => w5
              have hC5 : Coll Next.rep w5 w.heap.size 30 4 Ao (k + 1) co (InR w.heap.size A5) L xs := HC.out.stays HRN5.out.stay (fun q h => h.elim (fun h => .inl (.inl h)) (fun h => (HRN5.out.na q h).imp .inr id))
              have hl5 : wr.heap.size < w5.heap.size := HRN5.out.got.lt
              clear HRN4 HCO z1 z2 hC5
              obtain ⟨w6, hw6⟩ : ∃ w6, w6 = w5.alloc (.cells #[.int .i64 0, .slice none 0 0, .bool false, .slice none 0 0] 30) := ⟨_, rfl⟩
              have HB6 : Hid (Below w5.heap.size w5 w6) := Lib.hid (by rw [hw6]; exact balloc (bself _) _)
              have HN6 : Hid (NexAt w6 w5.heap.size w5.heap.size [] none 0) := Lib.hid (by rw [hw6]; exact ⟨Nat.le_refl _, Blk4.new _ _ _ _ _ _, Own.nil _ _ _ _⟩)
              have HRN6 := Lib.hid (HRN5.out.next HB6.out)
              go_upto_region 25 with fail
              rw [← hw6]
              clear hw6
              have z2 := HRN6.out.got.get 2
              simp only [List.getElem?_toArray, List.getElem?_cons_succ, List.getElem?_cons_zero] at z2
              go_upto_block 4 with fail
              go_cut [] (fun wx => Hid (RNow wr wx w.heap.size { r' with out := r'.out.eraseIdx ix, byte := ft.putR r'.byte g.at_ g.data } A5 c5 (n3 + g.data.length) g G gc A3 ∧ NexAt wx w5.heap.size w5.heap.size [] none 0 ∧ w5.heap.size < wx.heap.size))
              case first =>
                clear HPL HP HC HB HLL HLK HGR HLK2
                go_wp2
                go_loopw [87] (fun i wx => ∃ j : Nat, j ≤ g.data.length ∧ i = .int .i64 j ∧ Hid (RNow wr wx w.heap.size { r' with out := r'.out.eraseIdx ix, byte := ft.putR r'.byte g.at_ (g.data.take j) } A5 c5 (n3 + j) g G gc A3 ∧ NexAt wx w5.heap.size w5.heap.size [] none 0 ∧ w5.heap.size < wx.heap.size)) (fun i _ => g.data.length - (intOf i).toNat)
                case atStart => exact ⟨0, by omega, rfl, Lib.hid ⟨by rw [ft.putR_zero]; exact HRN6.out, HN6.out, HN6.out.box.lt⟩⟩
                case round =>
                  obtain ⟨j, hj, rfl, HJ⟩ := hrel
                  rename World => wx
                  clear z2 HRN6 HN6
                  by_cases hjl : j < g.data.length
                  · obtain ⟨gg, go', rfl, hgs, x0'⟩ := u8_at HJ.out.1.src hjl
                    have hjl' : (j : Int) < (g.data.length : Int) := by omega
                    have z0 := HJ.out.1.got.get 0
                    have y2 := HJ.out.1.ref.b2.get 0
                    simp only [List.getElem?_toArray, List.getElem?_cons_succ, List.getElem?_cons_zero] at z0 y2
                    obtain ⟨f, hm, hf⟩ := HJ.out.1.ref.map
                    have HM := Lib.hid hm
                    have HF2 := Lib.hid hf
                    have HST := Lib.hid (ft.putR_step r'.byte g.at_ g.data j hjl)
                    have HWF : Hid ((Lit.int .i64 (g.at_ + (j : Int))).wf = true) := Lib.hid (wf_i64 (by unfold IntOk; omega))
                    have hwj : IntKind.i64.wrap (g.at_ + (j : Int)) = g.at_ + (j : Int) := IntWalk.i64_in _ (by omega)
                    clear hm hf
                    generalize hxb : g.data.getD j 0 = xb at *
                    clear hxb
                    go_wp2_with (first
                      | (at_mapUpdate; refine wp_mput _ rfl _ _ _ _ rfl (Go.Maps.int_keyed Try.underlying3) Try.underlying68 rfl HM.out (by unfold maxLen; omega) _ _ rfl rfl (Go.Maps.keyOf_int_mk Try.underlying3 HWF.out) ?_; intro w8 hm8 hg8; have HM8 := Lib.hid hm8; have HG8 := Lib.hid hg8; clear hm8 hg8)
                      | fail)
                    go_roundw
                    case rel =>
                      have hr := HJ.out.1.ref.putByte HF2.out (g.at_ + (j : Int)) xb HM8.out HG8.out
                      have hs : Stays wx w8 (fun q => q = w.heap.size + 1) := ⟨HG8.out.os, HG8.out.tape, HG8.out.output, HG8.out.size, fun q hq hn => HG8.out.block q hq (fun e => hn (by cases e; rfl))⟩
                      refine ⟨j + 1, by omega, by go_num, Lib.hid ⟨?_, HJ.out.2.1.stays hs (fun e => by omega) (fun q hq => by cases hq), Nat.lt_of_lt_of_le HJ.out.2.2 hs.size⟩⟩
                      rw [← HST.out]
                      exact HJ.out.1.touch (hs.mono fun q _ h => .inl (.inl (by omega))) hr (Newer.refl _ _)
                    case measure => simp [intOf]; omega
                  · obtain rfl : j = g.data.length := by omega
                    have HT : Hid (g.data.take g.data.length = g.data) := Lib.hid (List.take_length)
                    go_wp2
                    go_meet
                    rw [HT.out] at HJ
                    exact HJ
              case rest =>
                rename World => w7
                obtain ⟨hR7, hN7, hl7⟩ := hcut.out
                have HRN7 := Lib.hid hR7
                have HN7 := Lib.hid hN7
                clear hcut hR7 hN7 HRN6 HN6 z2 HRN5 HB6
                have HCM : Hid (ft.cameR r' g ix = { r' with out := r'.out.eraseIdx ix ++ ft.rest g, byte := ft.putR r'.byte g.at_ g.data, end_ := if g.data.length = 0 then min r'.end_ g.at_ else r'.end_ }) := Lib.hid rfl
                have z2 := HRN7.out.got.get 2
                simp only [List.getElem?_toArray, List.getElem?_cons_succ, List.getElem?_cons_zero] at z2
                go_upto_if 102 with (fail)
                go_cut [] (fun wx => ∃ A6 c6 A7 c7, Hid (RNow wr wx w.heap.size (ft.cameR r' g ix) A6 c6 (n3 + g.data.length) g G gc A3 ∧ NexAt wx w5.heap.size w5.heap.size (ft.rest g) A7 c7 ∧ Far A6 A7))
                case first =>
                  clear HPL HP HC HB HLL HLK HGR HLK2 z2
                  by_cases hk0 : g.data.length = 0
                  · have HEO : Hid ((if g.data.length = 0 then min r'.end_ g.at_ else r'.end_) = min r'.end_ g.at_) := Lib.hid (if_pos hk0)
                    have HRE : Hid (ft.rest g = []) := Lib.hid (by unfold ft.rest; exact if_neg (fun h => by omega))
                    have d0 : decide (g.data.length = 0) = true := decide_eq_true hk0
                    have d0' : ((g.data.length : Int) == 0) = true := by rw [hk0]; rfl
                    clear hk0
                    have z0 := HRN7.out.got.get 0
                    have y4 := HRN7.out.ref.b4.get 0
                    have f4 := HRN7.out.ref.b4.frozen 0
                    simp only [List.getElem?_toArray, List.getElem?_cons_succ, List.getElem?_cons_zero] at z0 y4
                    by_cases hmn : g.at_ < r'.end_
                    · have HMN : Hid (min r'.end_ g.at_ = g.at_) := Lib.hid (by omega)
                      go_wp2
                      go_meet
                      refine ⟨A5, c5, none, 0, Lib.hid ⟨?_, ?_, Far.none' _⟩⟩
                      · rw [HCM.out, HEO.out, HRE.out, List.append_nil, HMN.out]
                        exact HRN7.out.touch ((Stays.set _ _ _ _).mono fun q _ h => .inl (.inl (by omega))) (HRN7.out.ref.setEnd g.at_) (Newer.refl _ _)
                      · rw [HRE.out]
                        exact HN7.out.stays (Stays.set _ _ _ _) (fun e => by omega) (fun q hq => by cases hq)
                    · have HMN : Hid (min r'.end_ g.at_ = r'.end_) := Lib.hid (by omega)
                      go_wp2
                      go_meet
                      refine ⟨A5, c5, none, 0, Lib.hid ⟨?_, ?_, Far.none' _⟩⟩
                      · rw [HCM.out, HEO.out, HRE.out, List.append_nil, HMN.out]
                        exact HRN7.out.touch ((Stays.set _ _ _ _).mono fun q _ h => .inl (.inl (by omega))) (HRN7.out.ref.setEnd r'.end_) (Newer.refl _ _)
                      · rw [HRE.out]
                        exact HN7.out.stays (Stays.set _ _ _ _) (fun e => by omega) (fun q hq => by cases hq)
                  · have HEO : Hid ((if g.data.length = 0 then min r'.end_ g.at_ else r'.end_) = r'.end_) := Lib.hid (if_neg hk0)
                    have d0 : decide (g.data.length = 0) = false := decide_eq_false hk0
                    have d0' : ((g.data.length : Int) == 0) = false := by simpa using hk0
                    have z0 := HRN7.out.got.get 0
                    have z1 := HRN7.out.got.get 1
                    have z2 := HRN7.out.got.get 2
                    simp only [List.getElem?_toArray, List.getElem?_cons_succ, List.getElem?_cons_zero] at z0 z1 z2
                    by_cases hk2 : (g.data.length : Int) < g.count
                    · have HRE : Hid (ft.rest g = [⟨g.at_ + g.data.length, g.count - g.data.length⟩]) := Lib.hid (by unfold ft.rest; exact if_pos ⟨by omega, hk2⟩)
                      clear hk0
                      have hel : (r'.out.eraseIdx ix).length ≤ 6 := by have := List.length_eraseIdx_le r'.out ix; omega
                      obtain ⟨w8, hw8⟩ : ∃ w8, w8 = w7.alloc (.cells #[.int .i64 (g.at_ + (g.data.length : Int)), .int .i64 (g.count - (g.data.length : Int))] 33) := ⟨_, rfl⟩
                      have HB8 : Hid (Below w7.heap.size w7 w8) := Lib.hid (by rw [hw8]; exact balloc (bself _) _)
                      have hx0 : w8.cell? ⟨w7.heap.size, 0, none⟩ = some (.int .i64 (g.at_ + (g.data.length : Int))) := by rw [hw8]; simp [go_sem]
                      have hx1 : w8.cell? ⟨w7.heap.size, 1, none⟩ = some (.int .i64 (g.count - (g.data.length : Int))) := by rw [hw8]; simp [go_sem]
                      have hlx : w7.heap.size < w8.heap.size := by rw [hw8]; simp
                      go_upto_region 34 with fail
                      rw [← hw8]
                      clear hw8 z0 z1 z2
                      have HR8 := Lib.hid (HRN7.out.next HB8.out)
                      have HN8 := Lib.hid (HN7.out.next HB8.out)
                      have hc0 := HR8.out.ref.b0.get 0
                      simp only [List.getElem?_toArray, List.getElem?_cons_succ, List.getElem?_cons_zero] at hc0
                      go_upto_region 35 with (first
                        | (at_builtin; refine wp_app _ rfl _ _ _ rfl elemWant w.heap.size A5 (r'.out.eraseIdx ix).length c5 _ rfl (HR8.out.ref.out.alloc _) _ 1 1 [_, _] rfl rfl (Cells.newAt _ _ _ rfl) (by simp [Value.oneCell']) (by omega) (by unfold maxLen; omega) (by simp only [World.size_alloc]; omega) ?_; intro A6 c6 w9 hO9 hg9; have k0 := (HR8.out.ref.b0.next (balloc (bself w8) _)).kept hg9.grown (HR8.out.ref.apart HR8.out.ref.out wantNeSl wantNeMap wantNeInt w.heap.size (by omega) (by omega)); have k1 := k0.get 0; have k2 := k0.frozen 0; simp only [List.getElem?_toArray, List.getElem?_cons_succ, List.getElem?_cons_zero] at k1; clear k0)
                        | fail)
                      obtain ⟨hR10, hst10, hn10⟩ := HR8.out.ref.push ⟨g.at_ + g.data.length, g.count - g.data.length⟩ (balloc (bself w8) _) hg9 hO9
                      dsimp only at hR10 hst10
                      obtain ⟨w10, hw10⟩ : ∃ w10, w10 = w9.setCell ⟨w.heap.size, 0, none⟩ (.slice A6 ((r'.out.eraseIdx ix).length + 1) c6) := ⟨_, rfl⟩
                      rw [← hw10] at hR10 hst10
                      rw [← hw10]
                      have hRN10 := HR8.out.touch (hst10.mono fun q _ h => h.elim (fun e => .inl (.inl (by omega))) (fun e => .inl (.inr e))) hR10 (Newer.of hn10)
                      have hx0' := (World.cell?_of_block (a := ⟨w7.heap.size, 0, none⟩) (hst10.block w7.heap.size hlx (fun e => by
                        rcases e with e | e
                        · omega
                        · have := (HRN7.out.ref.out.lt _ e).2; omega))).trans hx0
                      have hx1' := (World.cell?_of_block (a := ⟨w7.heap.size, 1, none⟩) (hst10.block w7.heap.size hlx (fun e => by
                        rcases e with e | e
                        · omega
                        · have := (HRN7.out.ref.out.lt _ e).2; omega))).trans hx1
                      have hN10 := HN8.out.stays hst10 (fun e => by
                        rcases e with e | e
                        · omega
                        · exact HN8.out.box.apart HR8.out.ref.out wantNeNext e) (fun q hq => by cases hq)
                      have HRN10 := Lib.hid hRN10
                      have HN10 := Lib.hid hN10
                      have hl10 : w8.heap.size ≤ w10.heap.size := hst10.size
                      have HA6 : Hid (∀ q, blkOf A6 = some q → q < w10.heap.size) := Lib.hid (fun q hq => (hR10.out.lt q hq).2)
                      clear hx0 hx1 hc0 k1 k2 hw10 hg9 hO9 hR10 hst10 hn10 hRN10 hN10 HR8 HN8
                      have hc1 := HN10.out.box.cell1
                      dsimp only [List.length_nil] at hc1
                      go_wp2_with (first
                        | (at_builtin; refine wp_app _ rfl _ _ _ rfl elemWant w5.heap.size none 0 0 [] rfl (Own.nil _ _ _ _) _ 1 1 [_, _] rfl rfl (Cells.newAt _ _ _ rfl) (by simp [Value.oneCell']) (by omega) (by unfold maxLen; omega) (by simp only [World.size_alloc]; omega) ?_; intro A8 c8 w12 hO12 hg12; have k0 := (HN10.out.box.next (balloc (bself w10) _)).kept hg12.grown (by intro e; cases e); have k1 := k0.cell1; have k2 := k0.frozen 1; clear k0; have HO12 := Lib.hid hO12; have HG12 := Lib.hid hg12; clear hO12 hg12; simp only [Nat.zero_add])
                        | fail)
                      go_meet
                      obtain ⟨hN13, hst13, hn13⟩ := HN10.out.push ⟨g.at_ + g.data.length, g.count - g.data.length⟩ (balloc (bself w10) _) HG12.out HO12.out
                      refine ⟨A6, c6, A8, c8, Lib.hid ⟨?_, ?_, ?_⟩⟩
                      · rw [HCM.out, HEO.out, HRE.out]
                        refine HRN10.out.touch (hst13.mono fun q _ h => ?_) (HRN10.out.ref.stays hst13 (fun q h1 h2 e => ?_) (fun q hq e => ?_)) (Newer.refl _ _)
                        · rcases h with h | h
                          · exact .inr (by omega)
                          · cases h
                        · rcases e with e | e
                          · omega
                          · cases e
                        · rcases e with e | e
                          · exact HN10.out.box.apart HRN10.out.ref.out wantNeNext (e ▸ hq)
                          · cases e
                      · rw [HRE.out]; exact hN13
                      · intro q hq hq2
                        rcases HG12.out.blk with e | ⟨z, hz, e⟩
                        · rw [e] at hq2; cases hq2
                        · rw [e] at hq2; cases hq2
                          have := HA6.out _ hq
                          simp only [World.size_alloc] at hz
                          omega
                    · have HRE : Hid (ft.rest g = []) := Lib.hid (by unfold ft.rest; exact if_neg (fun h => hk2 h.2))
                      clear hk0
                      go_wp2
                      go_meet
                      refine ⟨A5, c5, none, 0, Lib.hid ⟨?_, ?_, Far.none' _⟩⟩
                      · rw [HCM.out, HEO.out, HRE.out, List.append_nil]
                        exact HRN7.out
                      · rw [HRE.out]; exact HN7.out
                case rest =>
                  obtain ⟨A6, c6, A7, c7, HX⟩ := hcut
                  rename World => w8
                  obtain ⟨hR8, hN8, hf8⟩ := HX.out
                  have hl8 : w5.heap.size < w8.heap.size := hN8.box.lt
                  have HON := Lib.hid (ref_on (ft.cameR r' g ix) (ft.rest g) A6 A7 c6 c7 (n3 + g.data.length) w.heap.size w5.heap.size w8 hR8.ref hN8.out (by omega) hf8 (ft.okR_of HLK2.out) (by unfold ft.rest; split <;> simp))
                  have n0 := hN8.box.cell0
                  have n1 := hN8.box.cell1
                  have n2 := hN8.box.cell2
                  have n3' := hN8.box.cell3
                  have HR8 := Lib.hid hR8
                  have HL7 : Hid (∀ q, blkOf A7 = some q → w5.heap.size ≤ q) := Lib.hid (fun q hq => (hN8.out.lt q hq).1)
                  clear HX hR8 hN8 hf8 HRN7 HN7 HCM z2
                  have HAO : Hid (∀ q, blkOf Ao = some q → w.heap.size ≤ q ∧ q < wr.heap.size) := Lib.hid (fun q hq => HC.out.own.lt q hq)
                  go_wp2_with (first
                    | (go_at_call 19; refine HON.out.mono ?_; rintro e w9 ⟨A9, c9, cs, rfl, g1, g2, g3, g4⟩; obtain ⟨Bw, bw, Bd, bd, rfl, g5, g6⟩ := Next.rep_iff.1 g2; have HS9 : Hid (Stays wr w9 (InR w.heap.size A3)) := Lib.hid (HR8.out.stay.trans g3 (fun q hq h => by
                        rcases h with h | h | h | h
                        · exact .inl (by omega)
                        · exact .inl (by omega)
                        · exact (HR8.out.na q h).elim .inr (fun e => absurd hq (by omega))
                        · have := HL7.out q h; omega)); have HNW : Hid (∀ q, InR w.heap.size A9 q → InR w.heap.size A3 q ∨ wr.heap.size ≤ q) := Lib.hid (fun q h => h.elim (fun h => .inl (.inl h)) (fun h => (g4.inf h).elim (fun h => (HR8.out.na q h).imp .inr id) (fun h => .inr (by omega)))); have HC9 := Lib.hid (HC.out.stays HS9.out HNW.out); have G1 := Lib.hid g1; have G2 := Lib.hid g2; have hl9 := HS9.out.size; clear g1 g2 g3 g4 g5 g6)
                    | (at_builtin; refine wp_app _ rfl _ _ _ rfl elemNext w.heap.size Ao (k + 1) co xs rfl (HC9.out.own.alloc _) _ 1 1 [_, _, _, _] rfl rfl (Cells.newAt _ _ _ rfl) (by simp [Value.oneCell']) (by omega) (by unfold maxLen; omega) (by simp only [World.size_alloc]; omega) ?_; intro A10 c10 w10 hO10 hg10; have HO10 := Lib.hid hO10; have HG10 := Lib.hid hg10; clear hO10 hg10)
                    | fail)
                  go_roundw
                  case rel =>
                    have hC10 := HC9.out.push (a := (ft.onR (ft.cameR r' g ix) (ft.rest g)).2) (Next.rep.mono G2.out (fun q hq => ⟨⟨by have := hq.1; omega, hq.2.1, fun e => by have := (HAO.out q e).2; have := hq.1; omega, fun e => by
                      rcases e with e | e
                      · have := hq.1; omega
                      · exact hq.2.2.2 e⟩, rfl⟩)) (balloc (bself w9) _) HG10.out HO10.out (fun q hq => (InR.lt G1.out hq).2)
                    have hR10 := G1.out.stays ((Stays.of_below (balloc (bself w9) _) (fun j => blkOf Ao = some j)).comp (Stays.grew HG10.out)) (fun q h1 h2 e => HC9.out.far q e (.inl ⟨h1, h2⟩)) (fun q h1 e => HC9.out.far q e (.inr h1))
                    have hb9 : Below w.heap.size w w9 := HB.out.trans ⟨HS9.out.os, HS9.out.tape, HS9.out.output, HS9.out.size, fun q hq => HS9.out.block q (by omega) (fun e => by have := (InR.lt HF.out e).1; omega)⟩
                    have hb10 : Below w.heap.size w w10 := (balloc hb9 _).trans (HG10.out.below (by simp only [World.size_alloc]; omega) (fun q hq => (HAO.out q hq).1))
                    refine ⟨k + 1, A10, c10, _, _, (ft.onR (ft.cameR r' g ix) (ft.rest g)).1, A9, c9, n3 + g.data.length, by omega, by go_num, rfl, Lib.hid ⟨?_, hR10, by omega, ?_, hC10, ?_, hb10⟩⟩
                    · rw [List.length_append, HLL.out]; rfl
                    · obtain ⟨s0, hs0⟩ := HLK2.out
                      exact ⟨_, (ft.on_like hs0 (ft.rest g)).1⟩
                    · have h := HPL.out
                      rw [HGR.out] at h
                      exact h
                  case measure => simp [intOf]; omega
    · obtain rfl : k = l.length := by omega
      have HRS : Hid (NextsRes (ft.playR l) w (.returned (.tuple #[.slice Ao (l.length + 1) co, .int .i64 0])) wr) := Lib.hid (by
        have h := hC.rep rfl (by decide)
        refine NextsRes.yes (L := L) (by rw [HP.out, ← hpl, List.drop_length]; rfl) (by omega) h.2 hB)
      clear hLl hF hlk hC hpl hB HR HL HD
      go_wp2
      go_ret2
      exact HRS.out
theorem ref_Fetch_res (l : List Got) (A : Option Addr) (c : Nat) (w : World) (hl : SlRep Got.rep w (· < w.heap.size) l A c) (hlen : l.length ≤ 140737488351232) (hd : ∀ g ∈ l, g.data.length ≤ 140737488351232) :
    Calls Try.prog 8 #[.slice A l.length c] w (NextsRes (ft.playR l) w) := by
  by_cases h : 300 < l.length
  · refine (ref_Fetch_long _ c A w h hlen).mono ?_
    rintro e w' ⟨rfl, rfl⟩
    exact NextsRes.no (by unfold ft.playR; rw [if_pos h]) (bself w)
  · exact ref_Fetch_ok l A c w hl (by omega) hd
end Go.Proofs.Ytdldfllllgogoaa
