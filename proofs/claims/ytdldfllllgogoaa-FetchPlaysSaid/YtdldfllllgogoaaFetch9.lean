/- Package fetch: Play. No condition. -/
import Derived.Test.YtdldfllllgogoaaFetch8
namespace Go.Proofs.Ytdldfllllgogoaa
open Go.RowKit
set_option linter.unusedSimpArgs false

theorem elemNext : ElemT Try.prog 23 30 4 64 := ElemT.of Try.underlying23 (z := .agg #[.int .i64 0, .slice none 0 0, .bool false, .slice none 0 0]) (by kernel_rfl) rfl (by decide)
def NextsRes (r : Except Int (List Next)) (w : World) (e : Ending) (w' : World) : Prop :=
  ∃ A c, e = .returned (.tuple #[.slice A (exL r).length c, .int .i64 (exC r)]) ∧ SlRep Next.rep w' (fun k => w.heap.size ≤ k ∧ k < w'.heap.size) (exL r) A c ∧ Below w.heap.size w w'
theorem NextsRes.no {r : Except Int (List Next)} {c : Int} (h : r = .error c) {w w' : World} (hb : Below w.heap.size w w') : NextsRes r w (.returned (.tuple #[.slice none 0 0, .int .i64 c])) w' := by
  subst h
  exact ⟨none, 0, rfl, ⟨Nat.le_refl _, Nat.zero_le _, .inl rfl⟩, hb⟩
theorem NextsRes.yes {r : Except Int (List Next)} {L : List Next} (h : r = .ok L) {w w' : World} {A : Option Addr} {n c : Nat} (hn : n = L.length) (ho : SlRep Next.rep w' (fun k => w.heap.size ≤ k ∧ k < w'.heap.size) L A c) (hb : Below w.heap.size w w') : NextsRes r w (.returned (.tuple #[.slice A n c, .int .i64 0])) w' := by
  subst h
  subst hn
  exact ⟨A, c, rfl, ho, hb⟩
theorem fetch_got (s : ft.St) (g : Got) (G : Option Addr) (gc : Nat) (A D : Option Addr) (c dc B F : Nat) (w : World) (h : FetAt w B F s A c D dc) (hG : SlRep Rep.u8 w (· < B) g.data G gc) (hL : ∃ r, ft.Like s r) (hd : g.data.length ≤ 140737488351232) :
    Calls Try.prog 18 #[.pointer (some ⟨F, 0, none⟩), .agg #[.int .i64 g.at_, .int .i64 g.count, .slice G g.data.length gc]] w (GotRes w B F s g A D) := by
  have hfew := hL.choose_spec.few
  cases hi : ft.index s.out ⟨g.at_, g.count⟩ with
  | none => exact fetch_got_no s g 7 G gc A D c dc B F w h hfew hd (.inl ⟨rfl, hi⟩)
  | some i =>
    by_cases hc : g.count < g.data.length
    · exact fetch_got_no s g 1 G gc A D c dc B F w h hfew hd (.inr ⟨rfl, ⟨i, hi⟩, hc⟩)
    · exact fetch_got_ok s g i G gc A D c dc B F w h hG hL hi hc
def ft.zg : Got := ⟨0, 0, []⟩
theorem ft.like_got {s : ft.St} (h : ∃ r, ft.Like s r) (g : Got) : ∃ r, ft.Like (ft.got s g).1 r := ⟨_, (ft.got_like h.choose_spec g).1⟩
theorem ft.like_on : ∃ r, ft.Like (ft.on ft.start []).1 r := ⟨_, (ft.on_like ft.start_like []).1⟩
theorem ft.start_ok : ft.Ok ft.start := ⟨by decide, by decide, by decide, by decide⟩

theorem next_of_out {w : World} {BN BE N : Nat} {x : Next} {A E : Option Addr} {c ec : Nat} (h : NexOut w BN BE N x A c E ec) (hc : x.code = 0) : Next.rep.rep w (fun k => blkOf A = some k ∨ blkOf E = some k) x [.int .i64 0, .slice A x.wants.length c, .bool x.done, .slice E x.data.length ec] :=
  Next.rep_iff.2 ⟨A, c, E, ec, by rw [hc], ((Own.flat Want.cells rfl (fun S a => Want.enc w S a) (by decide) h.out).2.tight flat_want).within fun k hk => .inl hk, (h.data.u8.2.tight flat_u8).within fun k hk => .inr hk⟩
theorem Grew.first (w : World) (o : Obj) : Grew w (w.alloc o) none (some ⟨w.heap.size, 0, none⟩) :=
  ⟨⟨rfl, rfl, rfl, by simp, fun k hk _ => Below.heap_alloc w o k hk⟩, .inr ⟨w.heap.size, Nat.le_refl _, rfl⟩⟩
theorem InF.lt {w : World} {B F : Nat} {s : ft.St} {A D : Option Addr} {c dc : Nat} (h : FetAt w B F s A c D dc) {k : Nat} (hk : InF F A D k) : B ≤ k ∧ k < w.heap.size := by
  rcases hk with e | e | e
  · rw [e]; exact ⟨h.lo, h.box.lt⟩
  · exact h.out.lt k e
  · exact h.data.lt k e
theorem InF.below {w w' : World} {B F B0 : Nat} {s : ft.St} {A D : Option Addr} {c dc : Nat} (h : FetAt w B F s A c D dc) (hs : Stays w w' (InF F A D)) (hB : B0 ≤ B) (hw : B0 ≤ w.heap.size) : Below B0 w w' :=
  ⟨hs.os, hs.tape, hs.output, hs.size, fun k hk => hs.block k (by omega) (fun e => by have := (InF.lt h e).1; omega)⟩

set_option maxHeartbeats 400000 in
theorem fetch_Play_long (n c : Nat) (A : Option Addr) (w : World) (h : 300 < n) (hn : n ≤ 140737488351232) :
    Calls Try.prog 7 #[.slice A n c] w fun e w' => e = .returned (.tuple #[.slice none 0 0, .int .i64 1]) ∧ w = w' := by
  go_enter Try.func7, Try.ntmps7
  go_wp2
  go_ret2
  exact ⟨rfl, rfl⟩
set_option maxRecDepth 100000 in
set_option maxHeartbeats 2000000 in
theorem fetch_Play_ok (l : List Got) (A : Option Addr) (c : Nat) (w : World) (hl : SlRep Got.rep w (· < w.heap.size) l A c) (hlen : l.length ≤ 300) (hd : ∀ g ∈ l, g.data.length ≤ 140737488351232) :
    Calls Try.prog 7 #[.slice A l.length c] w (NextsRes (ft.play l) w) := by
  have HL := Lib.hid hl
  have HP : Hid (ft.play l = .ok (ft.playFrom (ft.on ft.start []).1 [(ft.on ft.start []).2] l)) := Lib.hid (by unfold ft.play; rw [if_neg (by omega)])
  have HD : Hid (∀ k, k < l.length → (l.getD k ft.zg).data.length ≤ 140737488351232) := Lib.hid (fun k hk => hd _ (by rw [List.getD_eq_getElem?_getD, List.getElem?_eq_getElem hk]; exact List.getElem_mem hk))
  clear hl hd
  obtain ⟨w1, hw1⟩ : ∃ w1, w1 = (w.alloc (.cells #[.slice none 0 0, .int .i64 0, .int .i64 (-1), .slice none 0 0] 62)).alloc (.cells #[.int .i64 0, .slice none 0 0, .bool false, .slice none 0 0] 30) := ⟨_, rfl⟩
  have HB1 : Hid (Below w.heap.size w w1) := Lib.hid (by rw [hw1]; exact balloc (balloc (bself w) _) _)
  have hs1 : w1.heap.size = w.heap.size + 1 + 1 := by rw [hw1]; simp
  have HS1 := Lib.hid hs1
  have HF1 : Hid (FetAt w1 w.heap.size w.heap.size ft.start none 0 none 0) := Lib.hid (by
    rw [hw1]
    exact ⟨Nat.le_refl _, (Blk4.new w _ _ _ _ _).alloc _, Own.nil _ _ _ _, Own.nil _ _ _ _⟩)
  have HN1 : Hid (NexAt w1 w.heap.size (w.heap.size + 1) [] none 0) := Lib.hid (by
    rw [hw1]
    have h := Blk4.new (w.alloc (.cells #[.slice none 0 0, .int .i64 0, .int .i64 (-1), .slice none 0 0] 62)) 30 (.int .i64 0) (.slice none 0 0) (.bool false) (.slice none 0 0)
    exact ⟨by omega, by simpa using h, Own.nil _ _ _ _⟩)
  have HON := Lib.hid (fetch_on ft.start [] none none none 0 0 0 w.heap.size w.heap.size w.heap.size (w.heap.size + 1) w1 HF1.out HN1.out (Far.none' _) ft.start_ok (by simp))
  clear hs1 HN1 HF1
  go_enter Try.func7, Try.ntmps7
  go_upto_region 6 with (first
    | (go_at_call 17; rw [← hw1]; refine HON.out.mono ?_; rintro e w2 ⟨rfl, A1, c1, A2, c2, E, ec, h1, h2, h3, h4, h5, h6⟩; have H1 := Lib.hid h1; have H2 := Lib.hid h2; have H3 := Lib.hid h3; have H4 := Lib.hid h4; have H5 := Lib.hid h5; clear h1 h2 h3 h4 h5 h6)
    | fail)
  have n0 := H2.out.box.cell0
  have n1 := H2.out.box.cell1
  have n2 := H2.out.box.cell2
  have n3 := H2.out.box.cell3
  have hl2 : w1.heap.size ≤ w2.heap.size := H4.out.size
  have hs1 := HS1.out
  have HC3 : Hid (Coll Next.rep (w2.alloc (.cells #[.int .i64 0, .slice A2 (ft.on ft.start []).2.wants.length c2, .bool (ft.on ft.start []).2.done, .slice E (ft.on ft.start []).2.data.length ec] 30)) w.heap.size 30 4 (some ⟨w2.heap.size, 0, none⟩) 1 1 (InF w.heap.size A1 none) [(ft.on ft.start []).2] [.int .i64 0, .slice A2 (ft.on ft.start []).2.wants.length c2, .bool (ft.on ft.start []).2.done, .slice E (ft.on ft.start []).2.data.length ec]) := Lib.hid (by
    have h := (Coll.nil (R := Next.rep) w2 w.heap.size 30 4 (InF w.heap.size A1 none)).push (a := (ft.on ft.start []).2) (Next.rep.mono (next_of_out H2.out rfl) (fun k hk => ⟨?_, rfl⟩)) (Below.refl _ _) (Grew.first w2 _) (Own.lit w2 w.heap.size 30 4 1 _ (by omega) (by simp) (by decide)) (fun k hk => (InF.lt H1.out hk).2)
    · exact h
    · refine ⟨?_, ?_, (fun e => by cases e), fun e => ?_⟩
      · rcases hk with h | h
        · exact (H2.out.out.lt k h).1
        · have := (H2.out.data.lt k h).1; omega
      · rcases hk with h | h
        · exact (H2.out.out.lt k h).2
        · exact (H2.out.data.lt k h).2
      · rcases hk with h | h
        · have h9 := (H2.out.out.lt k h).1
          rcases e with e | e | e
          · have := (Blk4.apart (show Blk4 w2 w.heap.size 62 _ _ _ _ from H1.out.box) H2.out.out wantNeFet)
            exact this (e ▸ h)
          · exact H3.out k e h
          · cases e
        · have h9 := (H2.out.data.lt k h).1
          rcases e with e | e | e
          · omega
          · rcases H1.out.out.two H2.out.data wantNeU8 with h2 | h2
            · rw [h2] at e; cases e
            · exact h2 (e.trans h.symm)
          · cases e)
  have HF3 : Hid (FetAt (w2.alloc (.cells #[.int .i64 0, .slice A2 (ft.on ft.start []).2.wants.length c2, .bool (ft.on ft.start []).2.done, .slice E (ft.on ft.start []).2.data.length ec] 30)) w.heap.size w.heap.size (ft.on ft.start []).1 A1 c1 none 0) := Lib.hid (H1.out.stays (Stays.of_below (balloc (bself w2) _) (fun _ => False)) id (fun _ _ => id) (fun _ _ => id))
  have HB2 : Hid (Below w.heap.size w w2) := Lib.hid ((HB1.out).trans (H4.out.below (by omega) (fun k h => by
    rcases h with h | h | h | h
    · omega
    · omega
    · cases h
    · cases h)))
  have HLK := Lib.hid ft.like_on
  clear H1 H2 H3 H4 H5 HB1 HS1 HON
  generalize (ft.on ft.start []).1 = s0 at *
  generalize (ft.on ft.start []).2 = x0 at *
  go_wp2
  go_loopw [6, 20] (fun out i wr => ∃ (k : Nat) (Ao : Option Addr) (co : Nat) (L : List Next) (xs : List Value) (s' : ft.St) (A3 : Option Addr) (c3 : Nat) (D3 : Option Addr) (dc3 : Nat), k ≤ l.length ∧ i = .int .i64 k ∧ out = .slice Ao (k + 1) co ∧ Hid (L.length = k + 1 ∧ FetAt wr w.heap.size w.heap.size s' A3 c3 D3 dc3 ∧ (∃ r, ft.Like s' r) ∧ Coll Next.rep wr w.heap.size 30 4 Ao (k + 1) co (InF w.heap.size A3 D3) L xs ∧ ft.playFrom s' L (l.drop k) = ft.playFrom s0 [x0] l ∧ Below w.heap.size w wr)) (fun _ i _ => l.length - (intOf i).toNat)
  case atStart => exact ⟨0, _, 1, _, _, s0, A1, c1, none, 0, by omega, rfl, rfl, Lib.hid ⟨rfl, HF3.out, HLK.out, HC3.out, rfl, balloc HB2.out _⟩⟩
  case round =>
    obtain ⟨k, Ao, co, L, xs, s', A3, c3, D3, dc3, hk, rfl, rfl, HR⟩ := hrel
    rename World => wr
    obtain ⟨hLl, hF, hlk, hC, hpl, hB⟩ := HR.out
    by_cases hlt : k < l.length
    · obtain ⟨b, o, rfl, hb, G, gc, e0, e1, e2, hg⟩ := Got.cells_at ft.zg (HL.out.below hB) hlt
      have hlt' : (k : Int) < (l.length : Int) := by omega
      have hbr : b < wr.heap.size := Nat.lt_of_lt_of_le hb hB.size
      have hdl := HD.out k hlt
      have HPL : Hid (ft.playFrom (ft.got s' (l.getD k ft.zg)).1 (L ++ [(ft.got s' (l.getD k ft.zg)).2]) (l.drop (k + 1)) = ft.playFrom s0 [x0] l) := Lib.hid (by rw [← hpl, drop_getD l ft.zg hlt]; rfl)
      have HGL := Lib.hid hg
      have HF := Lib.hid hF
      have HLK2 := Lib.hid hlk
      have HC := Lib.hid hC
      have HB := Lib.hid hB
      have HLL := Lib.hid hLl
      have hsz : w.heap.size ≤ wr.heap.size := hB.size
      clear hg hF hlk hC hpl hB HR HL HD HF3 HC3 HB2 HLK hLl n0 n1 n2 n3
      generalize l.getD k ft.zg = g at *
      go_wp2_with (first
        | (go_at_call 18; refine (fetch_got s' g G gc A3 D3 c3 dc3 w.heap.size w.heap.size _ (HF.out.stays (Stays.of_below (balloc (bself wr) _) (fun _ => False)) id (fun _ _ => id) (fun _ _ => id)) (HGL.out.keep fun q hq => ⟨hq, Below.heap_alloc wr _ q (by omega)⟩) HLK2.out hdl).mono ?_; rintro e w5 ⟨A5, c5, D5, dc5, cs, rfl, g1, g2, g3, g4⟩; obtain ⟨Aw, cw, Ad, cd, rfl, g5, g6⟩ := Next.rep_iff.1 g2; have HC5 := Lib.hid ((HC.out.next (balloc (bself wr) _)).stays g3 g4); have G1 := Lib.hid g1; have G2 := Lib.hid g2; have G3 := Lib.hid g3; have hs5 := g3.size; clear g1 g2 g3 g4 g5 g6)
        | (at_builtin; refine wp_app _ rfl _ _ _ rfl elemNext w.heap.size Ao (k + 1) co xs rfl (HC5.out.own.alloc _) _ 1 1 [_, _, _, _] rfl rfl (Cells.newAt _ _ _ rfl) (by simp [Value.oneCell']) (by omega) (by unfold maxLen; omega) (by simp only [World.size_alloc] at *; omega) ?_; intro A6 c6 w6 hO6 hg6; have HO6 := Lib.hid hO6; have HG6 := Lib.hid hg6; clear hO6 hg6)
        | fail)
      go_roundw
      case rel =>
        have hs5' : wr.heap.size + 1 ≤ w5.heap.size := by simpa using hs5
        have hC6 := HC5.out.push (a := (ft.got s' g).2) (Next.rep.mono G2.out (fun q hq => ⟨⟨by have := hq.1; simp only [World.size_alloc] at this; omega, hq.2.1, fun e => by have := (HC.out.own.lt q e).2; have := hq.1; simp only [World.size_alloc] at this; omega, hq.2.2⟩, rfl⟩)) (balloc (bself w5) _) HG6.out HO6.out (fun q hq => (InF.lt G1.out hq).2)
        have hF6 := G1.out.stays ((Stays.of_below (balloc (bself w5) _) (fun j => blkOf Ao = some j)).comp (Stays.grew HG6.out)) (fun e => HC5.out.far _ e (.inl rfl)) (fun j hj e => HC5.out.far _ e (.inr (.inl hj))) (fun j hj e => HC5.out.far _ e (.inr (.inr hj)))
        have hB6 : Below w.heap.size w w6 := by
          have b1 : Below w.heap.size w (wr.alloc (.cells #[.int .i64 g.at_, .int .i64 g.count, .slice G g.data.length gc] 66)) := balloc HB.out _
          have b2 := InF.below (HF.out.stays (Stays.of_below (balloc (bself wr) _) (fun _ => False)) id (fun _ _ => id) (fun _ _ => id)) G3.out (Nat.le_refl _) (by simp only [World.size_alloc]; omega)
          exact (balloc (b1.trans b2) _).trans (HG6.out.below (by simp only [World.size_alloc]; omega) (fun j hj => (HC5.out.own.lt j hj).1))
        exact ⟨k + 1, A6, c6, _, _, _, A5, c5, D5, dc5, by omega, by go_num, rfl, Lib.hid ⟨by simp [HLL.out], hF6, ft.like_got HLK2.out g, hC6, HPL.out, hB6⟩⟩
      case measure => simp [intOf]; omega
    · obtain rfl : k = l.length := by omega
      have HRS : Hid (NextsRes (ft.play l) w (.returned (.tuple #[.slice Ao (l.length + 1) co, .int .i64 0])) wr) := Lib.hid (by
        have h := hC.rep rfl (by decide)
        refine NextsRes.yes (L := L) (by rw [HP.out, ← hpl, List.drop_length]; rfl) (by omega) h.2 hB)
      clear hLl hF hlk hC hpl hB HR HL HD HF3 HC3 HB2 HLK n0 n1 n2 n3
      go_wp2
      go_ret2
      exact HRS.out
theorem fetch_Play_res (l : List Got) (A : Option Addr) (c : Nat) (w : World) (hl : SlRep Got.rep w (· < w.heap.size) l A c) (hlen : l.length ≤ 140737488351232) (hd : ∀ g ∈ l, g.data.length ≤ 140737488351232) :
    Calls Try.prog 7 #[.slice A l.length c] w (NextsRes (ft.play l) w) := by
  by_cases h : 300 < l.length
  · refine (fetch_Play_long _ c A w h hlen).mono ?_
    rintro e w' ⟨rfl, rfl⟩
    exact NextsRes.no (by unfold ft.play; rw [if_pos h]) (bself w)
  · exact fetch_Play_ok l A c w hl (by omega) hd
end Go.Proofs.Ytdldfllllgogoaa
