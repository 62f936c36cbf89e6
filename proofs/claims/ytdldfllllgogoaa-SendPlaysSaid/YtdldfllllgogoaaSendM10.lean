/- Texts in one: SendR6, SendR7, SendL. No condition. -/
import Derived.Test.YtdldfllllgogoaaSendM9
import Derived.Test.YtdldfllllgogoaaSendM8
import Derived.Test.YtdldfllllgogoaaSendM5
namespace Go.Proofs.Ytdldfllllgogoaa
open Go.RowKit
set_option linter.unusedSimpArgs false

def DeedRes (w : World) (B G : Nat) (r : Sent × sd.St) (D K : Option Addr) (e : Ending) (w' : World) : Prop :=
  ∃ cs kl td D1 dc1 K1 kc1, e = .returned (.agg cs.toArray) ∧ Sent.rep.rep w' (fun k => w.heap.size ≤ k ∧ k < w'.heap.size ∧ ¬ OF G D1 K1 k) r.1 cs ∧ OS w' B G r.2 kl td D1 dc1 K1 kc1 ∧ Stays w w' (fun k => k = G) ∧ ∀ k, OF G D1 K1 k → OF G D K k ∨ w.heap.size ≤ k
/-- behind the switch of Deed -/
structure OMid (w wx : World) (B G : Nat) (D K : Option Addr) (dt : List UInt8) (s' : sd.St) (kl : List Bool) (td : Int) (D1 : Option Addr) (dc1 : Nat) (K1 : Option Addr) (kc1 : Nat) (E : Option Addr) (ec : Nat) (bx : Array Value) : Prop where
  lt : ∀ k, OF G D K k → k < w.heap.size
  os : OS wx B G s' kl td D1 dc1 K1 kc1
  box : BlkA wx (w.heap.size + 1 + 1) 49 bx
  res : BlkA wx (w.heap.size + 1) 49 #[.int .i64 0, .int .i64 0, .slice none 0 0, .bool false, .bool false, .bool false, .int .i64 0]
  own : Own wx (w.heap.size + 1 + 1 + 1) 5 1 E dt.length ec (dt.map rv.u8v)
  far : ∀ k, blkOf E = some k → ¬ OF G D1 K1 k
  stay : Stays w wx (fun k => k = G)
  nm : ∀ k, OF G D1 K1 k → OF G D K k ∨ w.heap.size + 1 + 1 + 1 ≤ k
section
variable {w wx wy : World} {B G : Nat} {D K : Option Addr} {dt : List UInt8} {s' : sd.St} {kl : List Bool} {td : Int} {D1 : Option Addr} {dc1 : Nat} {K1 : Option Addr} {kc1 : Nat} {E : Option Addr} {ec : Nat} {bx bx' : Array Value}
theorem OMid.nohf (h : OMid w wx B G D K dt s' kl td D1 dc1 K1 kc1 E ec bx) {k : Nat} (hk : OF G D1 K1 k) : k ≠ w.heap.size + 1 + 1 ∧ k ≠ w.heap.size + 1 := by
  rcases h.nm k hk with e | e
  · have := h.lt k e; omega
  · omega
theorem OMid.touch (h : OMid w wx B G D K dt s' kl td D1 dc1 K1 kc1 E ec bx) (hs : Stays wx wy (fun k => k = w.heap.size + 1 + 1)) (hb : BlkA wy (w.heap.size + 1 + 1) 49 bx') : OMid w wy B G D K dt s' kl td D1 dc1 K1 kc1 E ec bx' :=
  ⟨h.lt, h.os.stays hs (fun k hk e => (h.nohf hk).1 e), hb, h.res.stays hs (fun e => by omega), h.own.stays hs (fun k hk e => by have := (h.own.lt k hk).1; omega), h.far, h.stay.trans hs (fun k hk e => by omega), h.nm⟩
end
theorem OMid.snd {w w3 w4 : World} {B G : Nat} {D K : Option Addr} {r : sd.St} {kl : List Bool} {td : Int} {D1 : Option Addr} {dc1 : Nat} {K1 : Option Addr} {kc1 : Nat} (hb : Below w.heap.size w w3) (hs3 : w3.heap.size = w.heap.size + 1 + 1 + 1) (hr : BlkA w3 (w.heap.size + 1) 49 #[.int .i64 0, .int .i64 0, .slice none 0 0, .bool false, .bool false, .bool false, .int .i64 0]) (ht : BlkA w3 (w.heap.size + 1 + 1) 49 #[.int .i64 0, .int .i64 0, .slice none 0 0, .bool false, .bool false, .bool false, .int .i64 0]) (hlt : ∀ k, OF G D K k → k < w.heap.size) (q1 : OS w4 B G r kl td D1 dc1 K1 kc1) (q2 : Stays w3 w4 (fun k => k = G)) (q3 : ∀ k, OF G D1 K1 k → OF G D K k ∨ w3.heap.size ≤ k) :
    OMid w w4 B G D K [] r kl td D1 dc1 K1 kc1 none 0 #[.int .i64 0, .int .i64 0, .slice none 0 0, .bool false, .bool false, .bool false, .int .i64 0] :=
  ⟨hlt, q1, ht.stays q2 (fun e => by have := hlt _ (.inl e); omega), hr.stays q2 (fun e => by have := hlt _ (.inl e); omega), Own.nil _ _ _ _, fun k hk => (by cases hk), (Stays.of_below hb _).trans q2 (fun k hk e => e), fun k hk => (q3 k hk).imp id (fun e => by omega)⟩
theorem OS.putClosed {w : World} {B G : Nat} {s : sd.St} {kl : List Bool} {td : Int} {D : Option Addr} {dc : Nat} {K : Option Addr} {kc : Nat} (h : OS w B G s kl td D dc K kc) (b : Bool) : OS (w.setCell ⟨G, 1, none⟩ (.bool b)) B G { s with closed := b } kl td D dc K kc := ⟨h.at_.putClosed b, h.knows, h.len, h.todo⟩
theorem sd.cnt_bd (P : Int → Bool) (lo : Int) : ∀ k : Nat, 0 ≤ sd.cnt P lo k ∧ sd.cnt P lo k ≤ k
  | 0 => ⟨Int.le_refl _, Int.le_refl _⟩
  | k + 1 => by
    have ih := sd.cnt_bd P lo k
    rw [sd.cnt]
    split <;> omega
theorem sd.cnt_step (kl : List Bool) (p : Nat) : sd.cnt (sd.PB kl) 0 (p + 1) = sd.cnt (sd.PB kl) 0 p + if kl.getD p false = true then 1 else 0 := by
  rw [sd.cnt, Int.zero_add, sd.PB_nat]
theorem OS.left {w : World} {B G : Nat} {s : sd.St} {kl : List Bool} {td : Int} {D : Option Addr} {dc : Nat} {K : Option Addr} {kc : Nat} (h : OS w B G s kl td D dc K kc) (hi : sd.Inv s) {n : Nat} (hn : s.next = n) : sd.endOf s - sd.cnt (sd.PB kl) 0 n = sd.leftOf s := by
  rw [sd.cnt_heard hi (P := sd.PB kl) (fun x x0 x1 => ?_) hn]
  · unfold sd.leftOf
    omega
  · obtain ⟨k, rfl⟩ : ∃ k : Nat, x = k := ⟨x.toNat, by omega⟩
    rw [sd.PB_nat, h.knows k]
    exact ⟨fun y => y.imp (fun z => ⟨x0, z⟩) id, fun y => y.imp (fun z => z.2) id⟩
section
variable (B G : Nat) (s : sd.St) (kl : List Bool) (td : Int) (D : Option Addr) (dc : Nat) (K : Option Addr) (kc : Nat) (d : Deed) (X : Option Addr) (xc : Nat) (R : Option Addr) (rc : Nat) (w : World)
set_option maxRecDepth 100000 in
set_option maxHeartbeats 4000000 in
theorem ref_Deed (h : OS w B G s kl td D dc K kc) (hi : sd.Inv s) (hX : SlRep Rep.u8 w (· < w.heap.size) d.data X xc) (hR : SlRep Rng.rep w (· < w.heap.size) d.sacks R rc) (ha : IntOk d.ack) (hwn : IntOk d.window) (hd : d.data.length ≤ 140737488351232) (hds : d.sacks.length ≤ 140737488351232) :
    Calls Try.prog 27 #[.pointer (some ⟨G, 0, none⟩), .agg #[.int .i64 d.kind, .slice X d.data.length xc, .int .i64 d.ack, .int .i64 d.window, .slice R d.sacks.length rc]] w (DeedRes w B G (sd.doIt s d) D K) := by
  obtain ⟨dk, dd, da, dw, ds⟩ := d
  simp only at hX hR ha hwn hd hds ⊢
  have H := Lib.hid h
  have HI := Lib.hid hi
  have hGl := h.at_.blk.lt
  have HLT := Lib.hid (fun k (hk : OF G D K k) => h.lts k hk)
  obtain ⟨ca, hca⟩ : ∃ ca : Array Value, ca = #[.int .i64 dk, .slice X dd.length xc, .int .i64 da, .int .i64 dw, .slice R ds.length rc] := ⟨_, rfl⟩
  obtain ⟨zt, hzt⟩ : ∃ zt : Array Value, zt = #[.int .i64 0, .int .i64 0, .slice none 0 0, .bool false, .bool false, .bool false, .int .i64 0] := ⟨_, rfl⟩
  obtain ⟨w3, hw3⟩ : ∃ w3, w3 = ((w.alloc (.cells ca 82)).alloc (.cells zt 49)).alloc (.cells zt 49) := ⟨_, rfl⟩
  have hb3 : Below w.heap.size w w3 := by rw [hw3]; exact balloc (balloc (balloc (bself w) _) _) _
  have hs3 : w3.heap.size = w.heap.size + 1 + 1 + 1 := by rw [hw3]; simp
  have hA3 : BlkA w3 w.heap.size 82 ca := by rw [hw3]; exact ((BlkA.new w 82 _).alloc _).alloc _
  have hR3 : BlkA w3 (w.heap.size + 1) 49 zt := by
    rw [hw3]
    have h := (BlkA.new (w.alloc (.cells ca 82)) 49 zt).alloc (.cells zt 49)
    simpa using h
  have hT3 : BlkA w3 (w.heap.size + 1 + 1) 49 zt := by
    rw [hw3]
    have h := BlkA.new ((w.alloc (.cells ca 82)).alloc (.cells zt 49)) 49 zt
    simpa using h
  have h3 := h.next hb3
  have HHE := Lib.hid (ref_hears B G s kl td D dc K kc ⟨dk, dd, da, dw, ds⟩ X xc R rc w3 h3 hi (hR.next hb3) ha hwn hds)
  have HPO := Lib.hid (ref_polls B G s kl td D dc K kc w3 h3 hi)
  have HHD : Hid (∀ (wx : World) (t : Int) (p : Nat) (b' : Bool), OAt wx B G s.data s.closed s.edge s.next kl t D dc K kc → p ≤ 4000000 → kl.getD p false = b' → Calls Try.prog 52 #[.pointer (some ⟨G, 0, none⟩), .int .i64 (p : Int)] wx fun e w' => e = .returned (.bool b') ∧ wx = w') := Lib.hid (fun wx t p b' hb hp he => he ▸ ref_heard B G s.data s.closed s.edge s.next kl t D dc K kc p wx hb hp)
  simp only at HHE
  subst hca hzt
  have HB3 := Lib.hid hb3
  have HS3 := Lib.hid hs3
  have HA3 := Lib.hid hA3
  have HR3 := Lib.hid hR3
  have HT3 := Lib.hid hT3
  have H3 := Lib.hid h3
  have HIN := Lib.hid (hi.step ⟨dk, dd, da, dw, ds⟩)
  have HX3 := Lib.hid (hX.next hb3)
  have HM0 := Lib.hid (OMid.snd hb3 hs3 hR3 hT3 HLT.out h3 (Stays.refl _ _) (fun k hk => .inl hk))
  have y0 := hA3.get 0
  have y1 := hA3.get 1
  have y2 := hA3.get 2
  have y3 := hA3.get 3
  have y4 := hA3.get 4
  simp only [List.getElem?_toArray, List.getElem?_cons_succ, List.getElem?_cons_zero] at y0 y1 y2 y3 y4
  clear h hi hX hR hA3 hR3 hT3 h3 hb3
  go_enter Try.func27, Try.ntmps27
  go_upto_region 2 with (fail)
  rw [← hw3]
  clear hw3
  go_upto_block 0 with (fail)
  go_cut [] (fun wx => ∃ c f dt b1 b2 b3 s' kl1 td1 D1 dc1 K1 kc1 E ec, Hid (sd.step s ⟨dk, dd, da, dw, ds⟩ = (⟨c, f, dt, b1, b2, b3, 0⟩, s')) ∧ Hid (OMid w wx B G D K dt s' kl1 td1 D1 dc1 K1 kc1 E ec #[.int .i64 c, .int .i64 f, .slice E (List.length dt) ec, .bool b1, .bool b2, .bool b3, .int .i64 0]))
  case first =>
    have zd := HM0.out.box.get
    have ze := HM0.out.box.frozen
    have hG3 := H3.out.at_.blk.lt
    have hz3 := HS3.out
    by_cases k1 : dk = 1
    · subst k1
      have HST : Hid (sd.step s ⟨1, dd, da, dw, ds⟩ = (sd.coded (sd.submit s dd).1, (sd.submit s dd).2)) := Lib.hid (by unfold sd.step; rw [if_pos rfl])
      have c0 := H3.out.at_.blk.get 0
      have c1 := H3.out.at_.blk.get 1
      have f0 := H3.out.at_.blk.frozen 0
      simp only [List.getElem?_toArray, List.getElem?_cons_succ, List.getElem?_cons_zero] at c0 c1
      have hsz := HI.out.size
      have HNO : Hid (∀ c wx, sd.submit s dd = (c, s) → Below w3.heap.size w3 wx → ∃ c' f dt b1 b2 b3 s' kl1 td1 D1 dc1 K1 kc1 E ec, Hid (sd.step s ⟨1, dd, da, dw, ds⟩ = (⟨c', f, dt, b1, b2, b3, 0⟩, s')) ∧ Hid (OMid w (wx.setCell ⟨w.heap.size + 1 + 1, 0, none⟩ (.int .i64 c)) B G D K dt s' kl1 td1 D1 dc1 K1 kc1 E ec #[.int .i64 c', .int .i64 f, .slice E (List.length dt) ec, .bool b1, .bool b2, .bool b3, .int .i64 0])) := Lib.hid (fun c wx hc hb => by
        have h1 := HM0.out
        have h2 : OMid w wx B G D K [] s kl td D dc K kc none 0 _ := ⟨h1.lt, h1.os.next hb, h1.box.next hb, h1.res.next hb, Own.nil _ _ _ _, h1.far, h1.stay.comp (Stays.of_below hb _), h1.nm⟩
        refine ⟨c, 0, [], false, false, false, s, kl, td, D, dc, K, kc, none, 0, Lib.hid (by rw [HST.out, hc]; rfl), Lib.hid (h2.touch (Stays.set _ _ _ _) (by simpa using h2.box.set 0 (.int .i64 c)))⟩)
      clear HHE HPO HHD HIN
      cases hc : s.closed with
      | true =>
        have HE : Hid (sd.submit s dd = (10, s)) := Lib.hid (by unfold sd.submit; rw [if_pos hc])
        rw [hc] at c1
        clear hc
        go_wp2
        go_meet
        exact HNO.out 10 _ HE.out (bself _)
      | false =>
        rw [hc] at c1
        by_cases k2 : 4096 < dd.length
        · have HE : Hid (sd.submit s dd = (1, s)) := Lib.hid (by unfold sd.submit; rw [if_neg (by rw [hc]; decide), if_pos k2])
          have q2 : (4096 : Int) < (dd.length : Int) := by omega
          clear hc
          go_wp2
          go_meet
          exact HNO.out 1 _ HE.out (bself _)
        · have q2 : ¬ (4096 : Int) < (dd.length : Int) := by omega
          by_cases k3 : 1048576 ≤ s.data.length + dd.length
          · have HE : Hid (sd.submit s dd = (9, s)) := Lib.hid (by unfold sd.submit; rw [if_neg (by rw [hc]; decide), if_neg k2, if_pos k3])
            have q3 : (1048575 : Int) < (s.data.length : Int) + (dd.length : Int) := by omega
            clear hc
            go_wp2
            go_quiet (fail)
            go_wp2
            go_meet
            exact HNO.out 9 _ HE.out (bdrewN (bself _) _)
          · have HE : Hid (sd.submit s dd = (0, { s with data := s.data ++ dd })) := Lib.hid (by unfold sd.submit; rw [if_neg (by rw [hc]; decide), if_neg k2, if_neg k3])
            have q3 : ¬ (1048575 : Int) < (s.data.length : Int) + (dd.length : Int) := by omega
            clear hc
            go_wp2
            go_quiet (fail)
            go_upto_region 5 with (fail)
            generalize hw4 : World.drewN w3 _ = w4
            have hb34 : Below w3.heap.size w3 w4 := by rw [← hw4]; exact bdrewN (bself _) _
            have hz4 : w4.heap.size = w3.heap.size := by rw [← hw4]; rfl
            clear hw4
            have H4 := Lib.hid (H3.out.next hb34)
            have HB34 := Lib.hid hb34
            have HZ4 := Lib.hid hz4
            have HC4 : Hid (∀ wx, Below w4.heap.size w4 wx → Cells wx D (s.data.map rv.u8v) ∧ Cells wx X (dd.map rv.u8v) ∧ (∀ u ∈ s.data.map rv.u8v, u.oneCell' = true) ∧ (∀ u ∈ dd.map rv.u8v, u.oneCell' = true)) := Lib.hid (fun wx hb => ⟨(H4.out.at_.data.next hb).cells, ((HX3.out.next hb34).next hb).cells_u8, oneCell_u8 _, oneCell_u8 _⟩)
            have c0 := (hb34.cell (p := ⟨G, 0, none⟩) hG3).trans c0
            have l3 : w.heap.size < w3.heap.size := by omega
            have y1 := (hb34.cell (p := ⟨w.heap.size, 1, none⟩) l3).trans y1
            have hG4 := H4.out.at_.blk.lt
            have l4 : w.heap.size < w4.heap.size := by omega
            clear hb34 hz4 c1 f0 zd ze
            --<sub
            refine wp_region_tail [11] (fun wx => wx.cell? ⟨G, 0, none⟩ = some (.slice D s.data.length dc) ∧ wx.cell? ⟨w.heap.size, 1, none⟩ = some (.slice X dd.length xc)) (by kernel_rfl) (⟨c0, y1⟩) ?_
            intro hHeld
            refine wpAnyT_pure (i := 0) (v := ?_) rfl (by kernel_rfl) (by kernel_rfl) (by kernel_rfl) (fun _ _ _ h => h) (.inl ⟨by kernel_rfl, ?_⟩) (fun _ => hHeld) ?_ (by decide)
            rotate_left
            · intro w9; go_simp; try with_reducible rfl
            try simp only [Act.put, List.getElem_toArray, List.getElem_cons_succ, List.getElem_cons_zero, List.setIfInBounds_toArray, List.set_cons_zero, List.set_cons_succ]
            refine wpAnyT_pure (i := 1) (v := ?_) rfl (by kernel_rfl) (by kernel_rfl) (by kernel_rfl) (fun _ _ _ h => h) (.inl ⟨by kernel_rfl, ?_⟩) (fun _ => hHeld) ?_ (by decide)
            rotate_left
            · intro w9; go_simp; try with_reducible rfl
            try simp only [Act.put, List.getElem_toArray, List.getElem_cons_succ, List.getElem_cons_zero, List.setIfInBounds_toArray, List.set_cons_zero, List.set_cons_succ]
            refine wpAnyT_pure (i := 2) (v := ?_) rfl (by kernel_rfl) (by kernel_rfl) (by kernel_rfl) (fun _ _ _ h => h) (.inl ⟨by kernel_rfl, ?_⟩) (fun _ => hHeld) ?_ (by decide)
            rotate_left
            · intro w9; go_simp; try with_reducible rfl
            try simp only [Act.put, List.getElem_toArray, List.getElem_cons_succ, List.getElem_cons_zero, List.setIfInBounds_toArray, List.set_cons_zero, List.set_cons_succ]
            refine wpAnyT_pure (i := 3) (v := ?_) rfl (by kernel_rfl) (by kernel_rfl) (by kernel_rfl) (fun _ _ _ h => h) (.inl ⟨by kernel_rfl, ?_⟩) (fun _ => hHeld) ?_ (by decide)
            rotate_left
            · intro w9; go_simp; try with_reducible rfl
            try simp only [Act.put, List.getElem_toArray, List.getElem_cons_succ, List.getElem_cons_zero, List.setIfInBounds_toArray, List.set_cons_zero, List.set_cons_succ]
            refine wpAnyT_take (i := 4) [5, 8, 11] (v := ?_) rfl (by kernel_rfl) (by kernel_rfl) (by kernel_rfl) (by kernel_rfl) (fun _ _ _ h => h) (.inl ⟨by kernel_rfl, ?_⟩) hHeld ?_
            rotate_left
            · intro w9 hS9; (try dsimp only at hS9); obtain ⟨q1, q2⟩ := hS9; go_simp; try with_reducible rfl
            try simp only [Act.put, List.getElem_toArray, List.getElem_cons_succ, List.getElem_cons_zero, List.setIfInBounds_toArray, List.set_cons_zero, List.set_cons_succ]
            refine wpAnyT_pure (i := 6) (v := ?_) rfl (by kernel_rfl) (by kernel_rfl) (by kernel_rfl) (fun _ _ _ h => h) (.inl ⟨by kernel_rfl, ?_⟩) (fun _ => hHeld) ?_ (by decide)
            rotate_left
            · intro w9; go_simp; try with_reducible rfl
            try simp only [Act.put, List.getElem_toArray, List.getElem_cons_succ, List.getElem_cons_zero, List.setIfInBounds_toArray, List.set_cons_zero, List.set_cons_succ]
            refine wpAnyT_take (i := 7) [8, 11] (v := ?_) rfl (by kernel_rfl) (by kernel_rfl) (by kernel_rfl) (by kernel_rfl) (fun _ _ _ h => h) (.inl ⟨by kernel_rfl, ?_⟩) hHeld ?_
            rotate_left
            · intro w9 hS9; (try dsimp only at hS9); obtain ⟨q1, q2⟩ := hS9; go_simp; try with_reducible rfl
            try simp only [Act.put, List.getElem_toArray, List.getElem_cons_succ, List.getElem_cons_zero, List.setIfInBounds_toArray, List.set_cons_zero, List.set_cons_succ]
            refine wpAnyT_next (i := 5) (by kernel_rfl) rfl ?_
            intro K hK
            refine step_app _ (by rfl) _ _ _ (by rfl) elemU8 w4.heap.size none 0 0 [] (by rfl) (Own.nil _ _ _ _) D s.data.length dc (s.data.map rv.u8v) (by rfl) (by simp) (HC4.out _ (Below.drew (bself w4))).1 (HC4.out _ (Below.drew (bself w4))).2.2.1 (by omega) (by unfold maxLen; omega) (Nat.le_refl _) ?_
            intro A5 c5 w5 hO5 hg5
            have hb5 : Below w4.heap.size w4 w5 := (Below.drew (bself w4)).trans (hg5.below (Nat.le_refl _) (fun k hk => by cases hk))
            have HO5 := Lib.hid hO5
            have HB5 := Lib.hid hb5
            have c05 := (hb5.cell (p := ⟨G, 0, none⟩) hG4).trans c0
            have y15 := (hb5.cell (p := ⟨w.heap.size, 1, none⟩) l4).trans y1
            clear hO5 hg5 hb5
            have hHeld2 := And.intro c05 y15
            refine hK.out _ _ (fun _ => hHeld2) ?_
            clear hK K hHeld
            have hHeld := hHeld2
            clear hHeld2
            try simp only [Act.put, List.getElem_toArray, List.getElem_cons_succ, List.getElem_cons_zero, List.setIfInBounds_toArray, List.set_cons_zero, List.set_cons_succ]
            refine wpAnyT_next (i := 8) (by kernel_rfl) rfl ?_
            intro K hK
            refine step_app _ (by rfl) _ _ _ (by rfl) elemU8 w4.heap.size A5 (0 + s.data.length) c5 _ (by rfl) HO5.out X dd.length xc (dd.map rv.u8v) (by rfl) (by simp) (HC4.out _ HB5.out).2.1 (HC4.out _ HB5.out).2.2.2 (by omega) (by unfold maxLen; omega) HB5.out.size ?_
            intro A6 c6 w6 hO6 hg6
            have hb6 : Below w4.heap.size w4 w6 := HB5.out.trans (hg6.below HB5.out.size (fun k hk => (HO5.out.lt k hk).1))
            have HO6 := Lib.hid hO6
            have HB6 := Lib.hid hb6
            have c06 := (hb6.cell (p := ⟨G, 0, none⟩) hG4).trans c0
            have y16 := (hb6.cell (p := ⟨w.heap.size, 1, none⟩) l4).trans y1
            have f06 := (H4.out.next hb6).at_.blk.frozen 0
            have l06 := (H4.out.next hb6).at_.blk.lt
            clear hO6 hg6 hb6
            have hHeld2 := And.intro c06 y16
            refine hK.out _ _ (fun _ => hHeld2) ?_
            clear hK K hHeld
            have hHeld := hHeld2
            clear hHeld2
            try simp only [Act.put, List.getElem_toArray, List.getElem_cons_succ, List.getElem_cons_zero, List.setIfInBounds_toArray, List.set_cons_zero, List.set_cons_succ]
            refine wpAnyT_pure (i := 9) (v := ?_) rfl (by kernel_rfl) (by kernel_rfl) (by kernel_rfl) (fun _ _ _ h => h) (.inl ⟨by kernel_rfl, ?_⟩) (fun _ => hHeld) ?_ (by decide)
            rotate_left
            · intro w9; go_simp; try with_reducible rfl
            try simp only [Act.put, List.getElem_toArray, List.getElem_cons_succ, List.getElem_cons_zero, List.setIfInBounds_toArray, List.set_cons_zero, List.set_cons_succ]
            refine wpAnyT_pure (i := 10) (v := ?_) rfl (by kernel_rfl) (by kernel_rfl) (by kernel_rfl) (fun _ _ _ h => h) (.inl ⟨by kernel_rfl, ?_⟩) (fun _ => hHeld) ?_ (by decide)
            rotate_left
            · intro w9; go_simp; try with_reducible rfl
            try simp only [Act.put, List.getElem_toArray, List.getElem_cons_succ, List.getElem_cons_zero, List.setIfInBounds_toArray, List.set_cons_zero, List.set_cons_succ]
            refine wpAnyT_next (i := 11) (by kernel_rfl) rfl ?_
            intro K hK
            go_simp
            refine hK.out _ _ (fun h => absurd ((by kernel_rfl : false = _).trans h) Bool.false_ne_true) ?_
            clear hK K
            refine wpAnyT_done (by kernel_rfl) ?_ _
            --sub>
            have HOS : Hid (OS (w6.setCell ⟨G, 0, none⟩ (.slice A6 (0 + s.data.length + dd.length) c6)) B G { s with data := s.data ++ dd } kl td A6 c6 K kc) := Lib.hid (by
              have h1 := H4.out.next HB6.out
              have hB : B ≤ w4.heap.size := by have := H.out.at_.lo; omega
              exact ⟨h1.at_.putData (by rw [List.map_append]; exact HO6.out.base_le hB) (by rw [List.length_append]; omega), h1.knows, h1.len, h1.todo⟩)
            have HST6 : Hid (Stays w3 (w6.setCell ⟨G, 0, none⟩ (.slice A6 (0 + s.data.length + dd.length) c6)) (fun k => k = G)) := Lib.hid (((Stays.of_below HB34.out _).comp (Stays.of_below HB6.out _)).comp (Stays.set _ _ _ _))
            have HOS := Lib.hid (Nat.zero_add s.data.length ▸ HOS.out)
            have HST6 := Lib.hid (Nat.zero_add s.data.length ▸ HST6.out)
            have hz4 := HZ4.out
            go_wp2
            go_meet
            exact ⟨0, 0, [], false, false, false, { s with data := s.data ++ dd }, kl, td, A6, c6, K, kc, none, 0, Lib.hid (by rw [HST.out, HE.out]; rfl), Lib.hid (OMid.snd HB3.out HS3.out HR3.out HT3.out HLT.out HOS.out HST6.out (fun k hk => by rcases hk with e | e | e; exact .inl (.inl e); exact .inr (by have := (HO6.out.lt k e).1; omega); exact .inl (.inr (.inr e))))⟩
    have e1 : (dk == 1) = false := by simpa using k1
    by_cases k5 : dk = 5
    · subst k5
      have c1 := H3.out.at_.blk.get 1
      have f1 := H3.out.at_.blk.frozen 1
      simp only [List.getElem?_toArray, List.getElem?_cons_succ, List.getElem?_cons_zero] at c1
      have n1 : G ≠ w.heap.size + 1 + 1 := by omega
      have n2 : w.heap.size + 1 + 1 ≠ G := by omega
      cases hc : s.closed with
      | true =>
        have HST : Hid (sd.step s ⟨5, dd, da, dw, ds⟩ = (sd.coded 10, s)) := Lib.hid (by unfold sd.step; rw [if_neg (by simp), if_pos rfl, if_pos hc])
        rw [hc] at c1
        clear hc HHE HPO HHD HIN
        go_wp2
        go_meet
        exact ⟨10, 0, [], false, false, false, s, kl, td, D, dc, K, kc, none, 0, HST, Lib.hid (HM0.out.touch (Stays.set _ _ _ _) (by simpa using HM0.out.box.set 0 (.int .i64 10)))⟩
      | false =>
        have HST : Hid (sd.step s ⟨5, dd, da, dw, ds⟩ = (sd.coded 0, { s with closed := true })) := Lib.hid (by unfold sd.step; rw [if_neg (by simp), if_pos rfl, if_neg (by rw [hc]; decide)])
        rw [hc] at c1
        clear hc HHE HPO HHD HIN
        go_wp2
        go_meet
        refine ⟨0, 0, [], false, false, false, { s with closed := true }, kl, td, D, dc, K, kc, none, 0, HST, Lib.hid ?_⟩
        have h1 := HM0.out
        have st := Stays.set w3 G 1 (.bool true)
        exact ⟨h1.lt, h1.os.putClosed true, h1.box.stays st (fun e => by omega), h1.res.stays st (fun e => by omega), Own.nil _ _ _ _, h1.far, h1.stay.comp st, h1.nm⟩
    have e5 : (dk == 5) = false := by simpa using k5
    by_cases k2 : dk = 2
    · subst k2
      have HST : Hid (sd.step s ⟨2, dd, da, dw, ds⟩ = (sd.coded (sd.heard s ⟨2, dd, da, dw, ds⟩).1, (sd.heard s ⟨2, dd, da, dw, ds⟩).2)) := Lib.hid (by unfold sd.step; rw [if_neg (by simp), if_neg (by simp), if_pos rfl])
      generalize sd.heard s ⟨2, dd, da, dw, ds⟩ = rs at *
      clear zd ze
      go_wp2_with (first
        | (go_at_call 51; ((with_reducible refine HHE.out.mono ?_); rintro e w4 ⟨kl1, K1, kc1, rfl, q1, q2, q3⟩; have HM := Lib.hid (OMid.snd HB3.out HS3.out HR3.out HT3.out HLT.out q1 q2 (fun k hk => by rcases hk with e | e | e; exact .inl (.inl e); exact .inl (.inr (.inl e)); exact (q3 k e).imp (fun e => .inr (.inr e)) id)); have zd := HM.out.box.get; have ze := HM.out.box.frozen; clear q1 q2 q3))
        | fail)
      go_meet
      exact ⟨rs.1, 0, [], false, false, false, rs.2, kl1, td, D, dc, K1, kc1, none, 0, HST, Lib.hid (HM.out.touch (Stays.set _ _ _ _) (by simpa using HM.out.box.set 0 (.int .i64 rs.1)))⟩
    have e2 : (dk == 2) = false := by simpa using k2
    by_cases k4 : dk = 4
    · subst k4
      have HST : Hid (sd.step s ⟨4, dd, da, dw, ds⟩ = (sd.coded 0, sd.timeout s)) := Lib.hid (by unfold sd.step; rw [if_neg (by simp), if_neg (by simp), if_neg (by simp), if_pos rfl])
      obtain ⟨n, hn⟩ : ∃ n : Nat, s.next = n := ⟨s.next.toNat, by have := HI.out.lo; omega⟩
      have hnb : n ≤ 1048576 := by have := HI.out.lo; have := HI.out.end_; omega
      obtain ⟨en, hen⟩ : ∃ en, sd.endOf s = en := ⟨_, rfl⟩
      have henb : 0 ≤ en ∧ en ≤ 1048576 := by have := HI.out.lo; have := HI.out.end_; omega
      have hedb := HI.out.edge
      have c5 := H3.out.at_.blk.get 5
      have f5 := H3.out.at_.blk.frozen 5
      simp only [List.getElem?_toArray, List.getElem?_cons_succ, List.getElem?_cons_zero] at c5
      clear HHE HPO HIN zd ze
      go_upto_region 20 with (fail)
      generalize hw4 : World.setCell w3 _ _ = w4
      have HO4 : Hid (OAt w4 B G s.data s.closed s.edge s.next kl 0 D dc K kc) := Lib.hid (by rw [← hw4]; exact H3.out.at_.putTodo 0)
      have HS4 : Hid (Stays w3 w4 (fun k => k = G)) := Lib.hid (by rw [← hw4]; exact Stays.set _ _ _ _)
      clear hw4 c5 f5
      have c2 := HO4.out.blk.get 2
      have c3 := HO4.out.blk.get 3
      simp only [List.getElem?_toArray, List.getElem?_cons_succ, List.getElem?_cons_zero] at c2 c3
      rw [hn] at c3
      have hG4 := HO4.out.blk.lt
      have HN := Lib.hid hn
      have HPL : Hid (∀ wx, Below w4.heap.size w4 wx → Calls Try.prog 53 #[.pointer (some ⟨G, 0, none⟩)] wx fun e w' => e = .returned (.int .i64 en) ∧ wx = w') := Lib.hid (fun wx hb => hen ▸ ref_places B G s.data s.closed s.edge s.next kl 0 D dc K kc wx (HO4.out.next hb) HI.out.size)
      have HEN := Lib.hid hen
      clear hn hen
      go_upto_block 2 with (fail)
      go_cut [6] (fun s6 wx => ∃ m : Bool, s6 = .bool m ∧ w4 = wx ∧ Hid (m = false ↔ ∀ i, i < n → kl.getD i false = true))
      case first =>
        go_wp2
        go_loop [6, 7] (fun s6 s7 => ∃ (p : Nat) (m : Bool), p ≤ n ∧ s7 = .int .i64 (p : Int) ∧ s6 = .bool m ∧ Hid (m = false ↔ ∀ i, i < p → kl.getD i false = true)) (fun _ s7 => n - (intOf s7).toNat)
        case atStart => exact ⟨0, false, by omega, rfl, rfl, Lib.hid ⟨fun _ i hi => by omega, fun _ => rfl⟩⟩
        case round =>
          obtain ⟨p, m, hp, rfl, rfl, HM⟩ := hrel
          by_cases hpn : p < n
          · have hpn' : (p : Int) < (n : Int) := by omega
            obtain ⟨b', hb'⟩ : ∃ b', kl.getD p false = b' := ⟨_, rfl⟩
            have HHP := Lib.hid (HHD.out w4 0 p b' HO4.out (by omega) hb')
            have HNX : Hid ((m || !b') = false ↔ ∀ i, i < p + 1 → kl.getD i false = true) := Lib.hid (by
              rw [Bool.or_eq_false_iff, HM.out]
              constructor
              · rintro ⟨h1, h2⟩ i hi
                rcases Nat.lt_or_ge i p with h3 | h3
                · exact h1 i h3
                · obtain rfl : i = p := by omega
                  rw [hb']
                  simpa using h2
              · intro h1
                refine ⟨fun i hi => h1 i (by omega), ?_⟩
                rw [← hb', h1 p (by omega)]
                rfl)
            clear hb'
            cases m with
            | true =>
              go_wp2
              go_round
              case rel => exact ⟨p + 1, true, by omega, by go_num, rfl, HNX⟩
              case measure => simp [intOf]; omega
            | false =>
              go_wp2_with (first
                | (go_at_call 52; ((with_reducible refine HHP.out.mono ?_); rintro e _ ⟨rfl, rfl⟩))
                | fail)
              go_round
              case rel => exact ⟨p + 1, !b', by omega, by go_num, rfl, Lib.hid (by have h := HNX.out; rwa [Bool.false_or] at h)⟩
              case measure => simp [intOf]; omega
          · obtain rfl : p = n := by omega
            have hpn' : decide (p < p) = false := by simp
            go_wp2
            go_meet
            exact ⟨m, rfl, rfl, HM⟩
      case rest =>
        obtain ⟨m, rfl, rfl, HM⟩ := hcut
        have hall : sd.first s s.done s.next = s.next ↔ m = false := by
          rw [sd.first_all HI.out, HM.out]
          constructor
          · intro h i hi
            exact (H3.out.knows i).2 ((h (i : Int) (by omega) (by have := HN.out; omega)).imp (fun x => x.2) id)
          · intro h x x0 x1
            obtain ⟨k, rfl⟩ : ∃ k : Nat, x = k := ⟨x.toNat, by omega⟩
            exact ((H3.out.knows k).1 (h k (by have := HN.out; omega))).imp (fun y => ⟨by omega, y⟩) id
        have HEDG : Hid (∀ e' : Int, (if m = false ∧ (n : Int) < en ∧ s.edge ≤ (n : Int) then (n : Int) + 1 else s.edge) = e' → sd.timeout s = { s with again := s.done, edge := e' }) := Lib.hid (fun e' he => by
          unfold sd.timeout
          rw [← he]
          have h1 := HN.out
          have h2 := HEN.out
          congr 1
          rw [h2, ← h1]
          by_cases hc : sd.first s s.done s.next = s.next ∧ s.next < en ∧ s.edge ≤ s.next
          · rw [if_pos hc, if_pos ⟨hall.1 hc.1, hc.2⟩]
          · rw [if_neg hc, if_neg (fun x => hc ⟨hall.2 x.1, x.2⟩)])
        have HMET : Hid (∀ (e' : Int) wx, (if m = false ∧ (n : Int) < en ∧ s.edge ≤ (n : Int) then (n : Int) + 1 else s.edge) = e' → OAt wx B G s.data s.closed e' s.next kl 0 D dc K kc → Stays w4 wx (fun k => k = G) → ∃ c f dt b1 b2 b3 s' kl1 td1 D1 dc1 K1 kc1 E ec, Hid (sd.step s ⟨4, dd, da, dw, ds⟩ = (⟨c, f, dt, b1, b2, b3, 0⟩, s')) ∧ Hid (OMid w wx B G D K dt s' kl1 td1 D1 dc1 K1 kc1 E ec #[.int .i64 c, .int .i64 f, .slice E (List.length dt) ec, .bool b1, .bool b2, .bool b3, .int .i64 0])) := Lib.hid (fun e' wx he ho hs => by
          refine ⟨0, 0, [], false, false, false, { s with again := s.done, edge := e' }, kl, 0, D, dc, K, kc, none, 0, Lib.hid (by rw [HST.out, HEDG.out e' he]; rfl), Lib.hid (OMid.snd HB3.out HS3.out HR3.out HT3.out HLT.out ⟨ho, H3.out.knows, H3.out.len, ?_⟩ (HS4.out.comp hs) (fun k hk => .inl hk))⟩
          exact ⟨Int.le_refl _, HI.out.lo.1, fun x x1 x2 => .inl ⟨x1, x2⟩⟩)
        clear hall HEDG
        cases m with
        | true =>
          go_upto_region 25 with (fail)
          --<tm
          refine wp_region_tail [] (fun wx => wx.cell? ⟨G, 2, none⟩ = some (.int .i64 s.edge) ∧ wx.cell? ⟨G, 3, none⟩ = some (.int .i64 (n : Int))) (by kernel_rfl) (⟨c2, c3⟩) ?_
          intro hHeld
          refine wpAnyT_pure (i := 0) (v := ?_) rfl (by kernel_rfl) (by kernel_rfl) (by kernel_rfl) (fun _ _ _ h => h) (.inl ⟨by kernel_rfl, ?_⟩) (fun _ => hHeld) ?_ (by decide)
          rotate_left
          · intro w9; go_simp; try with_reducible rfl
          try simp only [Act.put, List.getElem_toArray, List.getElem_cons_succ, List.getElem_cons_zero, List.setIfInBounds_toArray, List.set_cons_zero, List.set_cons_succ]
          refine wpAnyT_pure (i := 1) (v := ?_) rfl (by kernel_rfl) (by kernel_rfl) (by kernel_rfl) (fun _ _ _ h => h) (.inl ⟨by kernel_rfl, ?_⟩) (fun _ => hHeld) ?_ (by decide)
          rotate_left
          · intro w9; go_simp; try with_reducible rfl
          try simp only [Act.put, List.getElem_toArray, List.getElem_cons_succ, List.getElem_cons_zero, List.setIfInBounds_toArray, List.set_cons_zero, List.set_cons_succ]
          refine wpAnyT_pure (i := 2) (v := ?_) rfl (by kernel_rfl) (by kernel_rfl) (by kernel_rfl) (fun _ _ _ h => h) (.inl ⟨by kernel_rfl, ?_⟩) (fun _ => hHeld) ?_ (by decide)
          rotate_left
          · intro w9; go_simp; try with_reducible rfl
          try simp only [Act.put, List.getElem_toArray, List.getElem_cons_succ, List.getElem_cons_zero, List.setIfInBounds_toArray, List.set_cons_zero, List.set_cons_succ]
          refine wpAnyT_pure (i := 3) (v := undef) rfl (by kernel_rfl) (by kernel_rfl) (by kernel_rfl) (fun _ _ _ h => h) (.inr ⟨by kernel_rfl, rfl⟩) (fun _ => hHeld) ?_ (by decide)
          try simp only [Act.put, List.getElem_toArray, List.getElem_cons_succ, List.getElem_cons_zero, List.setIfInBounds_toArray, List.set_cons_zero, List.set_cons_succ]
          refine wpAnyT_pure (i := 4) (v := undef) rfl (by kernel_rfl) (by kernel_rfl) (by kernel_rfl) (fun _ _ _ h => h) (.inr ⟨by kernel_rfl, rfl⟩) (fun _ => hHeld) ?_ (by decide)
          try simp only [Act.put, List.getElem_toArray, List.getElem_cons_succ, List.getElem_cons_zero, List.setIfInBounds_toArray, List.set_cons_zero, List.set_cons_succ]
          refine wpAnyT_pure (i := 5) (v := undef) rfl (by kernel_rfl) (by kernel_rfl) (by kernel_rfl) (fun _ _ _ h => h) (.inr ⟨by kernel_rfl, rfl⟩) (fun _ => hHeld) ?_ (by decide)
          try simp only [Act.put, List.getElem_toArray, List.getElem_cons_succ, List.getElem_cons_zero, List.setIfInBounds_toArray, List.set_cons_zero, List.set_cons_succ]
          refine wpAnyT_pure (i := 6) (v := undef) rfl (by kernel_rfl) (by kernel_rfl) (by kernel_rfl) (fun _ _ _ h => h) (.inr ⟨by kernel_rfl, rfl⟩) (fun _ => hHeld) ?_ (by decide)
          try simp only [Act.put, List.getElem_toArray, List.getElem_cons_succ, List.getElem_cons_zero, List.setIfInBounds_toArray, List.set_cons_zero, List.set_cons_succ]
          refine wpAnyT_pure (i := 7) (v := undef) rfl (by kernel_rfl) (by kernel_rfl) (by kernel_rfl) (fun _ _ _ h => h) (.inr ⟨by kernel_rfl, rfl⟩) (fun _ => hHeld) ?_ (by decide)
          try simp only [Act.put, List.getElem_toArray, List.getElem_cons_succ, List.getElem_cons_zero, List.setIfInBounds_toArray, List.set_cons_zero, List.set_cons_succ]
          refine wpAnyT_pure (i := 8) (v := undef) rfl (by kernel_rfl) (by kernel_rfl) (by kernel_rfl) (fun _ _ _ h => h) (.inr ⟨by kernel_rfl, rfl⟩) (fun _ => hHeld) ?_ (by decide)
          try simp only [Act.put, List.getElem_toArray, List.getElem_cons_succ, List.getElem_cons_zero, List.setIfInBounds_toArray, List.set_cons_zero, List.set_cons_succ]
          refine wpAnyT_pure (i := 9) (v := undef) rfl (by kernel_rfl) (by kernel_rfl) (by kernel_rfl) (fun _ _ _ h => h) (.inr ⟨by kernel_rfl, rfl⟩) (fun _ => hHeld) ?_ (by decide)
          try simp only [Act.put, List.getElem_toArray, List.getElem_cons_succ, List.getElem_cons_zero, List.setIfInBounds_toArray, List.set_cons_zero, List.set_cons_succ]
          refine wpAnyT_pure (i := 10) (v := ?_) rfl (by kernel_rfl) (by kernel_rfl) (by kernel_rfl) (fun _ _ _ h => h) (.inl ⟨by kernel_rfl, ?_⟩) (fun _ => hHeld) ?_ (by decide)
          rotate_left
          · intro w9; go_simp; try with_reducible rfl
          try simp only [Act.put, List.getElem_toArray, List.getElem_cons_succ, List.getElem_cons_zero, List.setIfInBounds_toArray, List.set_cons_zero, List.set_cons_succ]
          refine wpAnyT_pure (i := 11) (v := ?_) rfl (by kernel_rfl) (by kernel_rfl) (by kernel_rfl) (fun _ _ _ h => h) (.inl ⟨by kernel_rfl, ?_⟩) (fun _ => hHeld) ?_ (by decide)
          rotate_left
          · intro w9; go_simp; try with_reducible rfl
          try simp only [Act.put, List.getElem_toArray, List.getElem_cons_succ, List.getElem_cons_zero, List.setIfInBounds_toArray, List.set_cons_zero, List.set_cons_succ]
          refine wpAnyT_pure (i := 12) (v := undef) rfl (by kernel_rfl) (by kernel_rfl) (by kernel_rfl) (fun _ _ _ h => h) (.inr ⟨by kernel_rfl, rfl⟩) (fun _ => hHeld) ?_ (by decide)
          try simp only [Act.put, List.getElem_toArray, List.getElem_cons_succ, List.getElem_cons_zero, List.setIfInBounds_toArray, List.set_cons_zero, List.set_cons_succ]
          refine wpAnyT_pure (i := 13) (v := undef) rfl (by kernel_rfl) (by kernel_rfl) (by kernel_rfl) (fun _ _ _ h => h) (.inr ⟨by kernel_rfl, rfl⟩) (fun _ => hHeld) ?_ (by decide)
          try simp only [Act.put, List.getElem_toArray, List.getElem_cons_succ, List.getElem_cons_zero, List.setIfInBounds_toArray, List.set_cons_zero, List.set_cons_succ]
          refine wpAnyT_pure (i := 14) (v := undef) rfl (by kernel_rfl) (by kernel_rfl) (by kernel_rfl) (fun _ _ _ h => h) (.inr ⟨by kernel_rfl, rfl⟩) (fun _ => hHeld) ?_ (by decide)
          try simp only [Act.put, List.getElem_toArray, List.getElem_cons_succ, List.getElem_cons_zero, List.setIfInBounds_toArray, List.set_cons_zero, List.set_cons_succ]
          refine wpAnyT_pure (i := 15) (v := undef) rfl (by kernel_rfl) (by kernel_rfl) (by kernel_rfl) (fun _ _ _ h => h) (.inr ⟨by kernel_rfl, rfl⟩) (fun _ => hHeld) ?_ (by decide)
          try simp only [Act.put, List.getElem_toArray, List.getElem_cons_succ, List.getElem_cons_zero, List.setIfInBounds_toArray, List.set_cons_zero, List.set_cons_succ]
          refine wpAnyT_pure (i := 16) (v := undef) rfl (by kernel_rfl) (by kernel_rfl) (by kernel_rfl) (fun _ _ _ h => h) (.inr ⟨by kernel_rfl, rfl⟩) (fun _ => hHeld) ?_ (by decide)
          try simp only [Act.put, List.getElem_toArray, List.getElem_cons_succ, List.getElem_cons_zero, List.setIfInBounds_toArray, List.set_cons_zero, List.set_cons_succ]
          refine wpAnyT_pure (i := 17) (v := undef) rfl (by kernel_rfl) (by kernel_rfl) (by kernel_rfl) (fun _ _ _ h => h) (.inr ⟨by kernel_rfl, rfl⟩) (fun _ => hHeld) ?_ (by decide)
          try simp only [Act.put, List.getElem_toArray, List.getElem_cons_succ, List.getElem_cons_zero, List.setIfInBounds_toArray, List.set_cons_zero, List.set_cons_succ]
          refine wpAnyT_pure (i := 18) (v := undef) rfl (by kernel_rfl) (by kernel_rfl) (by kernel_rfl) (fun _ _ _ h => h) (.inr ⟨by kernel_rfl, rfl⟩) (fun _ => hHeld) ?_ (by decide)
          try simp only [Act.put, List.getElem_toArray, List.getElem_cons_succ, List.getElem_cons_zero, List.setIfInBounds_toArray, List.set_cons_zero, List.set_cons_succ]
          refine wpAnyT_pure (i := 19) (v := undef) rfl (by kernel_rfl) (by kernel_rfl) (by kernel_rfl) (fun _ _ _ h => h) (.inr ⟨by kernel_rfl, rfl⟩) (fun _ => hHeld) ?_ (by decide)
          try simp only [Act.put, List.getElem_toArray, List.getElem_cons_succ, List.getElem_cons_zero, List.setIfInBounds_toArray, List.set_cons_zero, List.set_cons_succ]
          refine wpAnyT_pure (i := 20) (v := undef) rfl (by kernel_rfl) (by kernel_rfl) (by kernel_rfl) (fun _ _ _ h => h) (.inr ⟨by kernel_rfl, rfl⟩) (fun _ => hHeld) ?_ (by decide)
          try simp only [Act.put, List.getElem_toArray, List.getElem_cons_succ, List.getElem_cons_zero, List.setIfInBounds_toArray, List.set_cons_zero, List.set_cons_succ]
          refine wpAnyT_pure (i := 21) (v := ?_) rfl (by kernel_rfl) (by kernel_rfl) (by kernel_rfl) (fun _ _ _ h => h) (.inl ⟨by kernel_rfl, ?_⟩) (fun _ => hHeld) ?_ (by decide)
          rotate_left
          · intro w9; go_simp; try with_reducible rfl
          try simp only [Act.put, List.getElem_toArray, List.getElem_cons_succ, List.getElem_cons_zero, List.setIfInBounds_toArray, List.set_cons_zero, List.set_cons_succ]
          refine wpAnyT_done (by kernel_rfl) ?_ _
          --tm>
          go_wp2
          go_meet
          exact HMET.out s.edge _ (by simp) (HO4.out.next (Below.drew (bself _))) (Stays.of_below (Below.drew (bself _)) _)
        | false =>
          by_cases k6 : (n : Int) < en
          · have q6 : decide ((n : Int) < en) = true := by simpa using k6
            by_cases k7 : s.edge ≤ (n : Int)
            · have q7 : decide (s.edge ≤ (n : Int)) = true := by simpa using k7
              have HIF : Hid ((if (false : Bool) = false ∧ (n : Int) < en ∧ s.edge ≤ (n : Int) then (n : Int) + 1 else s.edge) = (n : Int) + 1) := Lib.hid (by rw [if_pos ⟨rfl, k6, k7⟩])
              go_upto_region 25 with (fail)
              --<tfy
              refine wp_region_tail [] (fun wx => wx.cell? ⟨G, 2, none⟩ = some (.int .i64 s.edge) ∧ wx.cell? ⟨G, 3, none⟩ = some (.int .i64 (n : Int))) (by kernel_rfl) (⟨c2, c3⟩) ?_
              intro hHeld
              refine wpAnyT_pure (i := 0) (v := ?_) rfl (by kernel_rfl) (by kernel_rfl) (by kernel_rfl) (fun _ _ _ h => h) (.inl ⟨by kernel_rfl, ?_⟩) (fun _ => hHeld) ?_ (by decide)
              rotate_left
              · intro w9; go_simp; try with_reducible rfl
              try simp only [Act.put, List.getElem_toArray, List.getElem_cons_succ, List.getElem_cons_zero, List.setIfInBounds_toArray, List.set_cons_zero, List.set_cons_succ]
              refine wpAnyT_pure (i := 1) (v := ?_) rfl (by kernel_rfl) (by kernel_rfl) (by kernel_rfl) (fun _ _ _ h => h) (.inl ⟨by kernel_rfl, ?_⟩) (fun _ => hHeld) ?_ (by decide)
              rotate_left
              · intro w9; go_simp; try with_reducible rfl
              try simp only [Act.put, List.getElem_toArray, List.getElem_cons_succ, List.getElem_cons_zero, List.setIfInBounds_toArray, List.set_cons_zero, List.set_cons_succ]
              refine wpAnyT_pure (i := 2) (v := ?_) rfl (by kernel_rfl) (by kernel_rfl) (by kernel_rfl) (fun _ _ _ h => h) (.inl ⟨by kernel_rfl, ?_⟩) (fun _ => hHeld) ?_ (by decide)
              rotate_left
              · intro w9; go_simp; try with_reducible rfl
              try simp only [Act.put, List.getElem_toArray, List.getElem_cons_succ, List.getElem_cons_zero, List.setIfInBounds_toArray, List.set_cons_zero, List.set_cons_succ]
              refine wpAnyT_pure (i := 3) (v := ?_) rfl (by kernel_rfl) (by kernel_rfl) (by kernel_rfl) (fun _ _ _ h => h) (.inl ⟨by kernel_rfl, ?_⟩) (fun _ => hHeld) ?_ (by decide)
              rotate_left
              · intro w9; go_simp; try with_reducible rfl
              try simp only [Act.put, List.getElem_toArray, List.getElem_cons_succ, List.getElem_cons_zero, List.setIfInBounds_toArray, List.set_cons_zero, List.set_cons_succ]
              refine wpAnyT_pure (i := 4) (v := ?_) rfl (by kernel_rfl) (by kernel_rfl) (by kernel_rfl) (fun _ _ _ h => h) (.inl ⟨by kernel_rfl, ?_⟩) (fun _ => hHeld) ?_ (by decide)
              rotate_left
              · intro w9; go_simp; try with_reducible rfl
              try simp only [Act.put, List.getElem_toArray, List.getElem_cons_succ, List.getElem_cons_zero, List.setIfInBounds_toArray, List.set_cons_zero, List.set_cons_succ]
              refine wpAnyT_pure (i := 5) (v := ?_) rfl (by kernel_rfl) (by kernel_rfl) (by kernel_rfl) (fun _ _ _ h => h) (.inl ⟨by kernel_rfl, ?_⟩) (fun _ => hHeld) ?_ (by decide)
              rotate_left
              · intro w9; go_simp; try with_reducible rfl
              try simp only [Act.put, List.getElem_toArray, List.getElem_cons_succ, List.getElem_cons_zero, List.setIfInBounds_toArray, List.set_cons_zero, List.set_cons_succ]
              refine wpAnyT_take (i := 6) [] (v := ?_) rfl (by kernel_rfl) (by kernel_rfl) (by kernel_rfl) (by kernel_rfl) (fun _ _ _ h => h) (.inl ⟨by kernel_rfl, ?_⟩) hHeld ?_
              rotate_left
              · intro w9 hS9; (try dsimp only at hS9); obtain ⟨q1, q2⟩ := hS9; go_simp; try with_reducible rfl
              try simp only [Act.put, List.getElem_toArray, List.getElem_cons_succ, List.getElem_cons_zero, List.setIfInBounds_toArray, List.set_cons_zero, List.set_cons_succ]
              refine wpAnyT_pure (i := 7) (v := ?_) rfl (by kernel_rfl) (by kernel_rfl) (by kernel_rfl) (fun _ _ _ h => h) (.inl ⟨by kernel_rfl, ?_⟩) (fun _ => hHeld) ?_ (by decide)
              rotate_left
              · intro w9; go_simp; try with_reducible rfl
              try simp only [Act.put, List.getElem_toArray, List.getElem_cons_succ, List.getElem_cons_zero, List.setIfInBounds_toArray, List.set_cons_zero, List.set_cons_succ]
              refine wpAnyT_next (i := 8) (by kernel_rfl) rfl ?_
              intro K hK
              go_simp
              go_at_call 53
              refine (HPL.out _ (by exact Below.drew (bself w4))).mono ?_
              rintro e _ ⟨rfl, rfl⟩
              go_simp
              have hHeld2 := hHeld
              refine hK.out _ _ (fun _ => hHeld2) ?_
              clear hK K hHeld
              have hHeld := hHeld2
              clear hHeld2
              try simp only [Act.put, List.getElem_toArray, List.getElem_cons_succ, List.getElem_cons_zero, List.setIfInBounds_toArray, List.set_cons_zero, List.set_cons_succ]
              refine wpAnyT_pure (i := 9) (v := ?_) rfl (by kernel_rfl) (by kernel_rfl) (by kernel_rfl) (fun _ _ _ h => h) (.inl ⟨by kernel_rfl, ?_⟩) (fun _ => hHeld) ?_ (by decide)
              rotate_left
              · intro w9; go_simp; try with_reducible rfl
              try simp only [Act.put, List.getElem_toArray, List.getElem_cons_succ, List.getElem_cons_zero, List.setIfInBounds_toArray, List.set_cons_zero, List.set_cons_succ]
              refine wpAnyT_pure (i := 10) (v := ?_) rfl (by kernel_rfl) (by kernel_rfl) (by kernel_rfl) (fun _ _ _ h => h) (.inl ⟨by kernel_rfl, ?_⟩) (fun _ => hHeld) ?_ (by decide)
              rotate_left
              · intro w9; go_simp; try with_reducible rfl
              try simp only [Act.put, List.getElem_toArray, List.getElem_cons_succ, List.getElem_cons_zero, List.setIfInBounds_toArray, List.set_cons_zero, List.set_cons_succ]
              refine wpAnyT_pure (i := 11) (v := ?_) rfl (by kernel_rfl) (by kernel_rfl) (by kernel_rfl) (fun _ _ _ h => h) (.inl ⟨by kernel_rfl, ?_⟩) (fun _ => hHeld) ?_ (by decide)
              rotate_left
              · intro w9; go_simp; try with_reducible rfl
              try simp only [Act.put, List.getElem_toArray, List.getElem_cons_succ, List.getElem_cons_zero, List.setIfInBounds_toArray, List.set_cons_zero, List.set_cons_succ]
              refine wpAnyT_pure (i := 12) (v := ?_) rfl (by kernel_rfl) (by kernel_rfl) (by kernel_rfl) (fun _ _ _ h => h) (.inl ⟨by kernel_rfl, ?_⟩) (fun _ => hHeld) ?_ (by decide)
              rotate_left
              · intro w9; go_simp; try with_reducible rfl
              try simp only [Act.put, List.getElem_toArray, List.getElem_cons_succ, List.getElem_cons_zero, List.setIfInBounds_toArray, List.set_cons_zero, List.set_cons_succ]
              refine wpAnyT_pure (i := 13) (v := ?_) rfl (by kernel_rfl) (by kernel_rfl) (by kernel_rfl) (fun _ _ _ h => h) (.inl ⟨by kernel_rfl, ?_⟩) (fun _ => hHeld) ?_ (by decide)
              rotate_left
              · intro w9; go_simp; try with_reducible rfl
              try simp only [Act.put, List.getElem_toArray, List.getElem_cons_succ, List.getElem_cons_zero, List.setIfInBounds_toArray, List.set_cons_zero, List.set_cons_succ]
              refine wpAnyT_pure (i := 14) (v := ?_) rfl (by kernel_rfl) (by kernel_rfl) (by kernel_rfl) (fun _ _ _ h => h) (.inl ⟨by kernel_rfl, ?_⟩) (fun _ => hHeld) ?_ (by decide)
              rotate_left
              · intro w9; go_simp; try with_reducible rfl
              try simp only [Act.put, List.getElem_toArray, List.getElem_cons_succ, List.getElem_cons_zero, List.setIfInBounds_toArray, List.set_cons_zero, List.set_cons_succ]
              refine wpAnyT_take (i := 15) [] (v := ?_) rfl (by kernel_rfl) (by kernel_rfl) (by kernel_rfl) (by kernel_rfl) (fun _ _ _ h => h) (.inl ⟨by kernel_rfl, ?_⟩) hHeld ?_
              rotate_left
              · intro w9 hS9; (try dsimp only at hS9); obtain ⟨q1, q2⟩ := hS9; go_simp; try with_reducible rfl
              try simp only [Act.put, List.getElem_toArray, List.getElem_cons_succ, List.getElem_cons_zero, List.setIfInBounds_toArray, List.set_cons_zero, List.set_cons_succ]
              refine wpAnyT_pure (i := 16) (v := ?_) rfl (by kernel_rfl) (by kernel_rfl) (by kernel_rfl) (fun _ _ _ h => h) (.inl ⟨by kernel_rfl, ?_⟩) (fun _ => hHeld) ?_ (by decide)
              rotate_left
              · intro w9; go_simp; try with_reducible rfl
              try simp only [Act.put, List.getElem_toArray, List.getElem_cons_succ, List.getElem_cons_zero, List.setIfInBounds_toArray, List.set_cons_zero, List.set_cons_succ]
              refine wpAnyT_pure (i := 17) (v := ?_) rfl (by kernel_rfl) (by kernel_rfl) (by kernel_rfl) (fun _ _ _ h => h) (.inl ⟨by kernel_rfl, ?_⟩) (fun _ => hHeld) ?_ (by decide)
              rotate_left
              · intro w9; go_simp; try with_reducible rfl
              try simp only [Act.put, List.getElem_toArray, List.getElem_cons_succ, List.getElem_cons_zero, List.setIfInBounds_toArray, List.set_cons_zero, List.set_cons_succ]
              refine wpAnyT_pure (i := 18) (v := ?_) rfl (by kernel_rfl) (by kernel_rfl) (by kernel_rfl) (fun _ _ _ h => h) (.inl ⟨by kernel_rfl, ?_⟩) (fun _ => hHeld) ?_ (by decide)
              rotate_left
              · intro w9; go_simp; try with_reducible rfl
              try simp only [Act.put, List.getElem_toArray, List.getElem_cons_succ, List.getElem_cons_zero, List.setIfInBounds_toArray, List.set_cons_zero, List.set_cons_succ]
              refine wpAnyT_take (i := 19) [] (v := ?_) rfl (by kernel_rfl) (by kernel_rfl) (by kernel_rfl) (by kernel_rfl) (fun _ _ _ h => h) (.inl ⟨by kernel_rfl, ?_⟩) hHeld ?_
              rotate_left
              · intro w9 hS9; (try dsimp only at hS9); obtain ⟨q1, q2⟩ := hS9; go_simp; try with_reducible rfl
              try simp only [Act.put, List.getElem_toArray, List.getElem_cons_succ, List.getElem_cons_zero, List.setIfInBounds_toArray, List.set_cons_zero, List.set_cons_succ]
              refine wpAnyT_pure (i := 20) (v := ?_) rfl (by kernel_rfl) (by kernel_rfl) (by kernel_rfl) (fun _ _ _ h => h) (.inl ⟨by kernel_rfl, ?_⟩) (fun _ => hHeld) ?_ (by decide)
              rotate_left
              · intro w9; go_simp; try with_reducible rfl
              try simp only [Act.put, List.getElem_toArray, List.getElem_cons_succ, List.getElem_cons_zero, List.setIfInBounds_toArray, List.set_cons_zero, List.set_cons_succ]
              refine wpAnyT_pure (i := 21) (v := ?_) rfl (by kernel_rfl) (by kernel_rfl) (by kernel_rfl) (fun _ _ _ h => h) (.inl ⟨by kernel_rfl, ?_⟩) (fun _ => hHeld) ?_ (by decide)
              rotate_left
              · intro w9; go_simp; try with_reducible rfl
              try simp only [Act.put, List.getElem_toArray, List.getElem_cons_succ, List.getElem_cons_zero, List.setIfInBounds_toArray, List.set_cons_zero, List.set_cons_succ]
              refine wpAnyT_done (by kernel_rfl) ?_ _
              --tfy>
              have f2 := (HO4.out.next (Below.drew (bself _))).blk.frozen 2
              go_wp2
              go_meet
              exact HMET.out _ _ HIF.out ((HO4.out.next (Below.drew (bself _))).putEdge _) ((Stays.of_below (Below.drew (bself _)) _).comp (Stays.set _ _ _ _))
            · have q7 : decide (s.edge ≤ (n : Int)) = false := by simpa using k7
              have HIF : Hid ((if (false : Bool) = false ∧ (n : Int) < en ∧ s.edge ≤ (n : Int) then (n : Int) + 1 else s.edge) = s.edge) := Lib.hid (by rw [if_neg (fun x => k7 x.2.2)])
              go_upto_region 25 with (fail)
              --<tfy
              refine wp_region_tail [] (fun wx => wx.cell? ⟨G, 2, none⟩ = some (.int .i64 s.edge) ∧ wx.cell? ⟨G, 3, none⟩ = some (.int .i64 (n : Int))) (by kernel_rfl) (⟨c2, c3⟩) ?_
              intro hHeld
              refine wpAnyT_pure (i := 0) (v := ?_) rfl (by kernel_rfl) (by kernel_rfl) (by kernel_rfl) (fun _ _ _ h => h) (.inl ⟨by kernel_rfl, ?_⟩) (fun _ => hHeld) ?_ (by decide)
              rotate_left
              · intro w9; go_simp; try with_reducible rfl
              try simp only [Act.put, List.getElem_toArray, List.getElem_cons_succ, List.getElem_cons_zero, List.setIfInBounds_toArray, List.set_cons_zero, List.set_cons_succ]
              refine wpAnyT_pure (i := 1) (v := ?_) rfl (by kernel_rfl) (by kernel_rfl) (by kernel_rfl) (fun _ _ _ h => h) (.inl ⟨by kernel_rfl, ?_⟩) (fun _ => hHeld) ?_ (by decide)
              rotate_left
              · intro w9; go_simp; try with_reducible rfl
              try simp only [Act.put, List.getElem_toArray, List.getElem_cons_succ, List.getElem_cons_zero, List.setIfInBounds_toArray, List.set_cons_zero, List.set_cons_succ]
              refine wpAnyT_pure (i := 2) (v := ?_) rfl (by kernel_rfl) (by kernel_rfl) (by kernel_rfl) (fun _ _ _ h => h) (.inl ⟨by kernel_rfl, ?_⟩) (fun _ => hHeld) ?_ (by decide)
              rotate_left
              · intro w9; go_simp; try with_reducible rfl
              try simp only [Act.put, List.getElem_toArray, List.getElem_cons_succ, List.getElem_cons_zero, List.setIfInBounds_toArray, List.set_cons_zero, List.set_cons_succ]
              refine wpAnyT_pure (i := 3) (v := ?_) rfl (by kernel_rfl) (by kernel_rfl) (by kernel_rfl) (fun _ _ _ h => h) (.inl ⟨by kernel_rfl, ?_⟩) (fun _ => hHeld) ?_ (by decide)
              rotate_left
              · intro w9; go_simp; try with_reducible rfl
              try simp only [Act.put, List.getElem_toArray, List.getElem_cons_succ, List.getElem_cons_zero, List.setIfInBounds_toArray, List.set_cons_zero, List.set_cons_succ]
              refine wpAnyT_pure (i := 4) (v := ?_) rfl (by kernel_rfl) (by kernel_rfl) (by kernel_rfl) (fun _ _ _ h => h) (.inl ⟨by kernel_rfl, ?_⟩) (fun _ => hHeld) ?_ (by decide)
              rotate_left
              · intro w9; go_simp; try with_reducible rfl
              try simp only [Act.put, List.getElem_toArray, List.getElem_cons_succ, List.getElem_cons_zero, List.setIfInBounds_toArray, List.set_cons_zero, List.set_cons_succ]
              refine wpAnyT_pure (i := 5) (v := ?_) rfl (by kernel_rfl) (by kernel_rfl) (by kernel_rfl) (fun _ _ _ h => h) (.inl ⟨by kernel_rfl, ?_⟩) (fun _ => hHeld) ?_ (by decide)
              rotate_left
              · intro w9; go_simp; try with_reducible rfl
              try simp only [Act.put, List.getElem_toArray, List.getElem_cons_succ, List.getElem_cons_zero, List.setIfInBounds_toArray, List.set_cons_zero, List.set_cons_succ]
              refine wpAnyT_take (i := 6) [] (v := ?_) rfl (by kernel_rfl) (by kernel_rfl) (by kernel_rfl) (by kernel_rfl) (fun _ _ _ h => h) (.inl ⟨by kernel_rfl, ?_⟩) hHeld ?_
              rotate_left
              · intro w9 hS9; (try dsimp only at hS9); obtain ⟨q1, q2⟩ := hS9; go_simp; try with_reducible rfl
              try simp only [Act.put, List.getElem_toArray, List.getElem_cons_succ, List.getElem_cons_zero, List.setIfInBounds_toArray, List.set_cons_zero, List.set_cons_succ]
              refine wpAnyT_pure (i := 7) (v := ?_) rfl (by kernel_rfl) (by kernel_rfl) (by kernel_rfl) (fun _ _ _ h => h) (.inl ⟨by kernel_rfl, ?_⟩) (fun _ => hHeld) ?_ (by decide)
              rotate_left
              · intro w9; go_simp; try with_reducible rfl
              try simp only [Act.put, List.getElem_toArray, List.getElem_cons_succ, List.getElem_cons_zero, List.setIfInBounds_toArray, List.set_cons_zero, List.set_cons_succ]
              refine wpAnyT_next (i := 8) (by kernel_rfl) rfl ?_
              intro K hK
              go_simp
              go_at_call 53
              refine (HPL.out _ (by exact Below.drew (bself w4))).mono ?_
              rintro e _ ⟨rfl, rfl⟩
              go_simp
              have hHeld2 := hHeld
              refine hK.out _ _ (fun _ => hHeld2) ?_
              clear hK K hHeld
              have hHeld := hHeld2
              clear hHeld2
              try simp only [Act.put, List.getElem_toArray, List.getElem_cons_succ, List.getElem_cons_zero, List.setIfInBounds_toArray, List.set_cons_zero, List.set_cons_succ]
              refine wpAnyT_pure (i := 9) (v := ?_) rfl (by kernel_rfl) (by kernel_rfl) (by kernel_rfl) (fun _ _ _ h => h) (.inl ⟨by kernel_rfl, ?_⟩) (fun _ => hHeld) ?_ (by decide)
              rotate_left
              · intro w9; go_simp; try with_reducible rfl
              try simp only [Act.put, List.getElem_toArray, List.getElem_cons_succ, List.getElem_cons_zero, List.setIfInBounds_toArray, List.set_cons_zero, List.set_cons_succ]
              refine wpAnyT_pure (i := 10) (v := ?_) rfl (by kernel_rfl) (by kernel_rfl) (by kernel_rfl) (fun _ _ _ h => h) (.inl ⟨by kernel_rfl, ?_⟩) (fun _ => hHeld) ?_ (by decide)
              rotate_left
              · intro w9; go_simp; try with_reducible rfl
              try simp only [Act.put, List.getElem_toArray, List.getElem_cons_succ, List.getElem_cons_zero, List.setIfInBounds_toArray, List.set_cons_zero, List.set_cons_succ]
              refine wpAnyT_pure (i := 11) (v := ?_) rfl (by kernel_rfl) (by kernel_rfl) (by kernel_rfl) (fun _ _ _ h => h) (.inl ⟨by kernel_rfl, ?_⟩) (fun _ => hHeld) ?_ (by decide)
              rotate_left
              · intro w9; go_simp; try with_reducible rfl
              try simp only [Act.put, List.getElem_toArray, List.getElem_cons_succ, List.getElem_cons_zero, List.setIfInBounds_toArray, List.set_cons_zero, List.set_cons_succ]
              refine wpAnyT_pure (i := 12) (v := ?_) rfl (by kernel_rfl) (by kernel_rfl) (by kernel_rfl) (fun _ _ _ h => h) (.inl ⟨by kernel_rfl, ?_⟩) (fun _ => hHeld) ?_ (by decide)
              rotate_left
              · intro w9; go_simp; try with_reducible rfl
              try simp only [Act.put, List.getElem_toArray, List.getElem_cons_succ, List.getElem_cons_zero, List.setIfInBounds_toArray, List.set_cons_zero, List.set_cons_succ]
              refine wpAnyT_pure (i := 13) (v := ?_) rfl (by kernel_rfl) (by kernel_rfl) (by kernel_rfl) (fun _ _ _ h => h) (.inl ⟨by kernel_rfl, ?_⟩) (fun _ => hHeld) ?_ (by decide)
              rotate_left
              · intro w9; go_simp; try with_reducible rfl
              try simp only [Act.put, List.getElem_toArray, List.getElem_cons_succ, List.getElem_cons_zero, List.setIfInBounds_toArray, List.set_cons_zero, List.set_cons_succ]
              refine wpAnyT_pure (i := 14) (v := ?_) rfl (by kernel_rfl) (by kernel_rfl) (by kernel_rfl) (fun _ _ _ h => h) (.inl ⟨by kernel_rfl, ?_⟩) (fun _ => hHeld) ?_ (by decide)
              rotate_left
              · intro w9; go_simp; try with_reducible rfl
              try simp only [Act.put, List.getElem_toArray, List.getElem_cons_succ, List.getElem_cons_zero, List.setIfInBounds_toArray, List.set_cons_zero, List.set_cons_succ]
              refine wpAnyT_take (i := 15) [] (v := ?_) rfl (by kernel_rfl) (by kernel_rfl) (by kernel_rfl) (by kernel_rfl) (fun _ _ _ h => h) (.inl ⟨by kernel_rfl, ?_⟩) hHeld ?_
              rotate_left
              · intro w9 hS9; (try dsimp only at hS9); obtain ⟨q1, q2⟩ := hS9; go_simp; try with_reducible rfl
              try simp only [Act.put, List.getElem_toArray, List.getElem_cons_succ, List.getElem_cons_zero, List.setIfInBounds_toArray, List.set_cons_zero, List.set_cons_succ]
              refine wpAnyT_pure (i := 16) (v := ?_) rfl (by kernel_rfl) (by kernel_rfl) (by kernel_rfl) (fun _ _ _ h => h) (.inl ⟨by kernel_rfl, ?_⟩) (fun _ => hHeld) ?_ (by decide)
              rotate_left
              · intro w9; go_simp; try with_reducible rfl
              try simp only [Act.put, List.getElem_toArray, List.getElem_cons_succ, List.getElem_cons_zero, List.setIfInBounds_toArray, List.set_cons_zero, List.set_cons_succ]
              refine wpAnyT_pure (i := 17) (v := ?_) rfl (by kernel_rfl) (by kernel_rfl) (by kernel_rfl) (fun _ _ _ h => h) (.inl ⟨by kernel_rfl, ?_⟩) (fun _ => hHeld) ?_ (by decide)
              rotate_left
              · intro w9; go_simp; try with_reducible rfl
              try simp only [Act.put, List.getElem_toArray, List.getElem_cons_succ, List.getElem_cons_zero, List.setIfInBounds_toArray, List.set_cons_zero, List.set_cons_succ]
              refine wpAnyT_pure (i := 18) (v := ?_) rfl (by kernel_rfl) (by kernel_rfl) (by kernel_rfl) (fun _ _ _ h => h) (.inl ⟨by kernel_rfl, ?_⟩) (fun _ => hHeld) ?_ (by decide)
              rotate_left
              · intro w9; go_simp; try with_reducible rfl
              try simp only [Act.put, List.getElem_toArray, List.getElem_cons_succ, List.getElem_cons_zero, List.setIfInBounds_toArray, List.set_cons_zero, List.set_cons_succ]
              refine wpAnyT_take (i := 19) [] (v := ?_) rfl (by kernel_rfl) (by kernel_rfl) (by kernel_rfl) (by kernel_rfl) (fun _ _ _ h => h) (.inl ⟨by kernel_rfl, ?_⟩) hHeld ?_
              rotate_left
              · intro w9 hS9; (try dsimp only at hS9); obtain ⟨q1, q2⟩ := hS9; go_simp; try with_reducible rfl
              try simp only [Act.put, List.getElem_toArray, List.getElem_cons_succ, List.getElem_cons_zero, List.setIfInBounds_toArray, List.set_cons_zero, List.set_cons_succ]
              refine wpAnyT_pure (i := 20) (v := ?_) rfl (by kernel_rfl) (by kernel_rfl) (by kernel_rfl) (fun _ _ _ h => h) (.inl ⟨by kernel_rfl, ?_⟩) (fun _ => hHeld) ?_ (by decide)
              rotate_left
              · intro w9; go_simp; try with_reducible rfl
              try simp only [Act.put, List.getElem_toArray, List.getElem_cons_succ, List.getElem_cons_zero, List.setIfInBounds_toArray, List.set_cons_zero, List.set_cons_succ]
              refine wpAnyT_pure (i := 21) (v := ?_) rfl (by kernel_rfl) (by kernel_rfl) (by kernel_rfl) (fun _ _ _ h => h) (.inl ⟨by kernel_rfl, ?_⟩) (fun _ => hHeld) ?_ (by decide)
              rotate_left
              · intro w9; go_simp; try with_reducible rfl
              try simp only [Act.put, List.getElem_toArray, List.getElem_cons_succ, List.getElem_cons_zero, List.setIfInBounds_toArray, List.set_cons_zero, List.set_cons_succ]
              refine wpAnyT_done (by kernel_rfl) ?_ _
              --tfy>
              go_wp2
              go_meet
              exact HMET.out _ _ HIF.out (HO4.out.next (Below.drew (bself _))) (Stays.of_below (Below.drew (bself _)) _)
          · have q6 : decide ((n : Int) < en) = false := by simpa using k6
            have HIF : Hid ((if (false : Bool) = false ∧ (n : Int) < en ∧ s.edge ≤ (n : Int) then (n : Int) + 1 else s.edge) = s.edge) := Lib.hid (by rw [if_neg (fun x => k6 x.2.1)])
            go_upto_region 25 with (fail)
            --<tfn
            refine wp_region_tail [] (fun wx => wx.cell? ⟨G, 2, none⟩ = some (.int .i64 s.edge) ∧ wx.cell? ⟨G, 3, none⟩ = some (.int .i64 (n : Int))) (by kernel_rfl) (⟨c2, c3⟩) ?_
            intro hHeld
            refine wpAnyT_pure (i := 0) (v := ?_) rfl (by kernel_rfl) (by kernel_rfl) (by kernel_rfl) (fun _ _ _ h => h) (.inl ⟨by kernel_rfl, ?_⟩) (fun _ => hHeld) ?_ (by decide)
            rotate_left
            · intro w9; go_simp; try with_reducible rfl
            try simp only [Act.put, List.getElem_toArray, List.getElem_cons_succ, List.getElem_cons_zero, List.setIfInBounds_toArray, List.set_cons_zero, List.set_cons_succ]
            refine wpAnyT_pure (i := 1) (v := ?_) rfl (by kernel_rfl) (by kernel_rfl) (by kernel_rfl) (fun _ _ _ h => h) (.inl ⟨by kernel_rfl, ?_⟩) (fun _ => hHeld) ?_ (by decide)
            rotate_left
            · intro w9; go_simp; try with_reducible rfl
            try simp only [Act.put, List.getElem_toArray, List.getElem_cons_succ, List.getElem_cons_zero, List.setIfInBounds_toArray, List.set_cons_zero, List.set_cons_succ]
            refine wpAnyT_pure (i := 2) (v := ?_) rfl (by kernel_rfl) (by kernel_rfl) (by kernel_rfl) (fun _ _ _ h => h) (.inl ⟨by kernel_rfl, ?_⟩) (fun _ => hHeld) ?_ (by decide)
            rotate_left
            · intro w9; go_simp; try with_reducible rfl
            try simp only [Act.put, List.getElem_toArray, List.getElem_cons_succ, List.getElem_cons_zero, List.setIfInBounds_toArray, List.set_cons_zero, List.set_cons_succ]
            refine wpAnyT_pure (i := 3) (v := ?_) rfl (by kernel_rfl) (by kernel_rfl) (by kernel_rfl) (fun _ _ _ h => h) (.inl ⟨by kernel_rfl, ?_⟩) (fun _ => hHeld) ?_ (by decide)
            rotate_left
            · intro w9; go_simp; try with_reducible rfl
            try simp only [Act.put, List.getElem_toArray, List.getElem_cons_succ, List.getElem_cons_zero, List.setIfInBounds_toArray, List.set_cons_zero, List.set_cons_succ]
            refine wpAnyT_pure (i := 4) (v := ?_) rfl (by kernel_rfl) (by kernel_rfl) (by kernel_rfl) (fun _ _ _ h => h) (.inl ⟨by kernel_rfl, ?_⟩) (fun _ => hHeld) ?_ (by decide)
            rotate_left
            · intro w9; go_simp; try with_reducible rfl
            try simp only [Act.put, List.getElem_toArray, List.getElem_cons_succ, List.getElem_cons_zero, List.setIfInBounds_toArray, List.set_cons_zero, List.set_cons_succ]
            refine wpAnyT_pure (i := 5) (v := ?_) rfl (by kernel_rfl) (by kernel_rfl) (by kernel_rfl) (fun _ _ _ h => h) (.inl ⟨by kernel_rfl, ?_⟩) (fun _ => hHeld) ?_ (by decide)
            rotate_left
            · intro w9; go_simp; try with_reducible rfl
            try simp only [Act.put, List.getElem_toArray, List.getElem_cons_succ, List.getElem_cons_zero, List.setIfInBounds_toArray, List.set_cons_zero, List.set_cons_succ]
            refine wpAnyT_take (i := 6) [] (v := ?_) rfl (by kernel_rfl) (by kernel_rfl) (by kernel_rfl) (by kernel_rfl) (fun _ _ _ h => h) (.inl ⟨by kernel_rfl, ?_⟩) hHeld ?_
            rotate_left
            · intro w9 hS9; (try dsimp only at hS9); obtain ⟨q1, q2⟩ := hS9; go_simp; try with_reducible rfl
            try simp only [Act.put, List.getElem_toArray, List.getElem_cons_succ, List.getElem_cons_zero, List.setIfInBounds_toArray, List.set_cons_zero, List.set_cons_succ]
            refine wpAnyT_pure (i := 7) (v := ?_) rfl (by kernel_rfl) (by kernel_rfl) (by kernel_rfl) (fun _ _ _ h => h) (.inl ⟨by kernel_rfl, ?_⟩) (fun _ => hHeld) ?_ (by decide)
            rotate_left
            · intro w9; go_simp; try with_reducible rfl
            try simp only [Act.put, List.getElem_toArray, List.getElem_cons_succ, List.getElem_cons_zero, List.setIfInBounds_toArray, List.set_cons_zero, List.set_cons_succ]
            refine wpAnyT_next (i := 8) (by kernel_rfl) rfl ?_
            intro K hK
            go_simp
            go_at_call 53
            refine (HPL.out _ (by exact Below.drew (bself w4))).mono ?_
            rintro e _ ⟨rfl, rfl⟩
            go_simp
            have hHeld2 := hHeld
            refine hK.out _ _ (fun _ => hHeld2) ?_
            clear hK K hHeld
            have hHeld := hHeld2
            clear hHeld2
            try simp only [Act.put, List.getElem_toArray, List.getElem_cons_succ, List.getElem_cons_zero, List.setIfInBounds_toArray, List.set_cons_zero, List.set_cons_succ]
            refine wpAnyT_pure (i := 9) (v := ?_) rfl (by kernel_rfl) (by kernel_rfl) (by kernel_rfl) (fun _ _ _ h => h) (.inl ⟨by kernel_rfl, ?_⟩) (fun _ => hHeld) ?_ (by decide)
            rotate_left
            · intro w9; go_simp; try with_reducible rfl
            try simp only [Act.put, List.getElem_toArray, List.getElem_cons_succ, List.getElem_cons_zero, List.setIfInBounds_toArray, List.set_cons_zero, List.set_cons_succ]
            refine wpAnyT_pure (i := 10) (v := ?_) rfl (by kernel_rfl) (by kernel_rfl) (by kernel_rfl) (fun _ _ _ h => h) (.inl ⟨by kernel_rfl, ?_⟩) (fun _ => hHeld) ?_ (by decide)
            rotate_left
            · intro w9; go_simp; try with_reducible rfl
            try simp only [Act.put, List.getElem_toArray, List.getElem_cons_succ, List.getElem_cons_zero, List.setIfInBounds_toArray, List.set_cons_zero, List.set_cons_succ]
            refine wpAnyT_pure (i := 11) (v := ?_) rfl (by kernel_rfl) (by kernel_rfl) (by kernel_rfl) (fun _ _ _ h => h) (.inl ⟨by kernel_rfl, ?_⟩) (fun _ => hHeld) ?_ (by decide)
            rotate_left
            · intro w9; go_simp; try with_reducible rfl
            try simp only [Act.put, List.getElem_toArray, List.getElem_cons_succ, List.getElem_cons_zero, List.setIfInBounds_toArray, List.set_cons_zero, List.set_cons_succ]
            refine wpAnyT_pure (i := 12) (v := undef) rfl (by kernel_rfl) (by kernel_rfl) (by kernel_rfl) (fun _ _ _ h => h) (.inr ⟨by kernel_rfl, rfl⟩) (fun _ => hHeld) ?_ (by decide)
            try simp only [Act.put, List.getElem_toArray, List.getElem_cons_succ, List.getElem_cons_zero, List.setIfInBounds_toArray, List.set_cons_zero, List.set_cons_succ]
            refine wpAnyT_pure (i := 13) (v := undef) rfl (by kernel_rfl) (by kernel_rfl) (by kernel_rfl) (fun _ _ _ h => h) (.inr ⟨by kernel_rfl, rfl⟩) (fun _ => hHeld) ?_ (by decide)
            try simp only [Act.put, List.getElem_toArray, List.getElem_cons_succ, List.getElem_cons_zero, List.setIfInBounds_toArray, List.set_cons_zero, List.set_cons_succ]
            refine wpAnyT_pure (i := 14) (v := undef) rfl (by kernel_rfl) (by kernel_rfl) (by kernel_rfl) (fun _ _ _ h => h) (.inr ⟨by kernel_rfl, rfl⟩) (fun _ => hHeld) ?_ (by decide)
            try simp only [Act.put, List.getElem_toArray, List.getElem_cons_succ, List.getElem_cons_zero, List.setIfInBounds_toArray, List.set_cons_zero, List.set_cons_succ]
            refine wpAnyT_pure (i := 15) (v := undef) rfl (by kernel_rfl) (by kernel_rfl) (by kernel_rfl) (fun _ _ _ h => h) (.inr ⟨by kernel_rfl, rfl⟩) (fun _ => hHeld) ?_ (by decide)
            try simp only [Act.put, List.getElem_toArray, List.getElem_cons_succ, List.getElem_cons_zero, List.setIfInBounds_toArray, List.set_cons_zero, List.set_cons_succ]
            refine wpAnyT_pure (i := 16) (v := undef) rfl (by kernel_rfl) (by kernel_rfl) (by kernel_rfl) (fun _ _ _ h => h) (.inr ⟨by kernel_rfl, rfl⟩) (fun _ => hHeld) ?_ (by decide)
            try simp only [Act.put, List.getElem_toArray, List.getElem_cons_succ, List.getElem_cons_zero, List.setIfInBounds_toArray, List.set_cons_zero, List.set_cons_succ]
            refine wpAnyT_pure (i := 17) (v := undef) rfl (by kernel_rfl) (by kernel_rfl) (by kernel_rfl) (fun _ _ _ h => h) (.inr ⟨by kernel_rfl, rfl⟩) (fun _ => hHeld) ?_ (by decide)
            try simp only [Act.put, List.getElem_toArray, List.getElem_cons_succ, List.getElem_cons_zero, List.setIfInBounds_toArray, List.set_cons_zero, List.set_cons_succ]
            refine wpAnyT_pure (i := 18) (v := undef) rfl (by kernel_rfl) (by kernel_rfl) (by kernel_rfl) (fun _ _ _ h => h) (.inr ⟨by kernel_rfl, rfl⟩) (fun _ => hHeld) ?_ (by decide)
            try simp only [Act.put, List.getElem_toArray, List.getElem_cons_succ, List.getElem_cons_zero, List.setIfInBounds_toArray, List.set_cons_zero, List.set_cons_succ]
            refine wpAnyT_pure (i := 19) (v := undef) rfl (by kernel_rfl) (by kernel_rfl) (by kernel_rfl) (fun _ _ _ h => h) (.inr ⟨by kernel_rfl, rfl⟩) (fun _ => hHeld) ?_ (by decide)
            try simp only [Act.put, List.getElem_toArray, List.getElem_cons_succ, List.getElem_cons_zero, List.setIfInBounds_toArray, List.set_cons_zero, List.set_cons_succ]
            refine wpAnyT_pure (i := 20) (v := undef) rfl (by kernel_rfl) (by kernel_rfl) (by kernel_rfl) (fun _ _ _ h => h) (.inr ⟨by kernel_rfl, rfl⟩) (fun _ => hHeld) ?_ (by decide)
            try simp only [Act.put, List.getElem_toArray, List.getElem_cons_succ, List.getElem_cons_zero, List.setIfInBounds_toArray, List.set_cons_zero, List.set_cons_succ]
            refine wpAnyT_pure (i := 21) (v := ?_) rfl (by kernel_rfl) (by kernel_rfl) (by kernel_rfl) (fun _ _ _ h => h) (.inl ⟨by kernel_rfl, ?_⟩) (fun _ => hHeld) ?_ (by decide)
            rotate_left
            · intro w9; go_simp; try with_reducible rfl
            try simp only [Act.put, List.getElem_toArray, List.getElem_cons_succ, List.getElem_cons_zero, List.setIfInBounds_toArray, List.set_cons_zero, List.set_cons_succ]
            refine wpAnyT_done (by kernel_rfl) ?_ _
            --tfn>
            go_wp2
            go_meet
            exact HMET.out _ _ HIF.out (HO4.out.next (Below.drew (bself _))) (Stays.of_below (Below.drew (bself _)) _)
    have e4 : (dk == 4) = false := by simpa using k4
    by_cases k3 : dk = 3
    · subst k3
      have HST : Hid (sd.step s ⟨3, dd, da, dw, ds⟩ = sd.poll s) := Lib.hid (by unfold sd.step; rw [if_neg (by simp), if_neg (by simp), if_neg (by simp), if_neg (by simp), if_pos rfl])
      obtain ⟨f1, f2, _⟩ := sd.poll_form s
      obtain ⟨pp, hpp⟩ : ∃ pp, pp = (sd.poll s).1 := ⟨_, rfl⟩
      obtain ⟨ps, hps⟩ : ∃ ps, ps = (sd.poll s).2 := ⟨_, rfl⟩
      have HPP : Hid (sd.step s ⟨3, dd, da, dw, ds⟩ = (pp, ps)) := Lib.hid (by rw [HST.out, hpp, hps])
      have HPO2 : Hid (Calls Try.prog 54 #[.pointer (some ⟨G, 0, none⟩)] w3 (PolRes w3 B G (pp, ps) kl D dc K kc)) := Lib.hid (by rw [hpp, hps]; exact HPO.out)
      rw [← hpp] at f1 f2
      obtain ⟨pc, pf, pd, pn, pa, pi, pl⟩ := pp
      try simp only at f1 f2
      subst f1 f2
      clear hpp hps HST HPO HHE HHD zd ze
      go_wp2_with (first
        | (go_at_call 54; ((with_reducible refine HPO2.out.mono ?_); rintro e w4 ⟨E, ec, td1, rfl, q0, q1, q2⟩; have Q0 := Lib.hid q0; have Q1 := Lib.hid q1; have Q2 := Lib.hid q2; have z2 := HT3.out.stays q2 (fun e => by omega); have zd := z2.get; have ze := z2.frozen; clear q0 q1 q2))
        | fail)
      go_meet
      have hlt1 := Q0.out.lt
      have hz := HS3.out
      have st := Stays.seven w4 (w.heap.size + 1 + 1) (.int .i64 0) (.int .i64 pf) (.slice E pd.length ec) (.bool pn) (.bool pa) (.bool pi) (.int .i64 0)
      refine ⟨0, pf, pd, pn, pa, pi, ps, kl, td1, D, dc, K, kc, E, ec, HPP, Lib.hid ⟨HLT.out, Q1.out.stays st (fun k hk e => by have := HLT.out k hk; omega), z2.seven _ _ _ _ _ _ _, (HR3.out.stays Q2.out (fun e => by omega)).stays st (fun e => by omega), ?_, fun k hk e => by have := HLT.out k e; have := (hlt1 k hk).1; omega, ?_, fun k hk => .inl hk⟩⟩
      · have h := Q0.out.stays st (fun k hk e => by have := (hlt1 k hk).1; omega)
        rw [hz] at h
        exact h
      · exact (((Stays.of_below HB3.out _).comp Q2.out)).trans st (fun k hk e => by omega)
    have e3 : (dk == 3) = false := by simpa using k3
    have HST : Hid (sd.step s ⟨dk, dd, da, dw, ds⟩ = (sd.coded 3, s)) := Lib.hid (by unfold sd.step; rw [if_neg k1, if_neg k5, if_neg k2, if_neg k4, if_neg k3])
    clear HHE HPO HHD
    go_wp2
    go_meet
    exact ⟨3, 0, [], false, false, false, s, kl, td, D, dc, K, kc, none, 0, HST, Lib.hid (HM0.out.touch (Stays.set _ _ _ _) (by simpa using HM0.out.box.set 0 (.int .i64 3)))⟩
  case rest =>
    obtain ⟨c, f, dt, b1, b2, b3, s', kl1, td1, D1, dc1, K1, kc1, E, ec, HST, HM⟩ := hcut
    rename World => w5
    have hI2 := HIN.out
    rw [HST.out] at hI2
    simp only at hI2
    obtain ⟨n, hn⟩ : ∃ n : Nat, s'.next = n := ⟨s'.next.toNat, by have := hI2.lo; omega⟩
    have hnb : n ≤ 1048576 := by have := hI2.lo; have := hI2.end_; omega
    obtain ⟨en, hen⟩ : ∃ en, sd.endOf s' = en := ⟨_, rfl⟩
    have henb : (n : Int) ≤ en ∧ en ≤ 1048576 := by have := hI2.lo; have := hI2.end_; omega
    have HLF : Hid (en - sd.cnt (sd.PB kl1) 0 n = sd.leftOf s') := Lib.hid (by rw [← hen]; exact HM.out.os.left hI2 hn)
    have HPL : Hid (Calls Try.prog 53 #[.pointer (some ⟨G, 0, none⟩)] w5 fun e w' => e = .returned (.int .i64 en) ∧ w5 = w') := Lib.hid (hen ▸ ref_places B G s'.data s'.closed s'.edge s'.next kl1 td1 D1 dc1 K1 kc1 w5 HM.out.os.at_ hI2.size)
    have HN := Lib.hid hn
    have zd := HM.out.box.get
    have ze := HM.out.box.frozen
    have l5 := HM.out.box.lt
    clear HIN hI2 HHE HPO HHD y0 y1 y2 y3 y4 hen hn HM0
    go_upto_region 30 with (first
      | (go_at_call 53; ((with_reducible refine HPL.out.mono ?_); rintro e _ ⟨rfl, rfl⟩))
      | fail)
    generalize hw6 : World.setCell w5 _ _ = w6
    have HM6 : Hid (OMid w w6 B G D K dt s' kl1 td1 D1 dc1 K1 kc1 E ec #[.int .i64 c, .int .i64 f, .slice E (List.length dt) ec, .bool b1, .bool b2, .bool b3, .int .i64 (en - sd.cnt (sd.PB kl1) 0 0)]) := Lib.hid (by
      rw [← hw6, show en - sd.cnt (sd.PB kl1) 0 0 = en from Int.sub_zero en]
      exact HM.out.touch (Stays.set _ _ _ _) (by simpa using HM.out.box.set 6 (.int .i64 en)))
    clear hw6 zd ze l5 HPL
    go_upto_block 4 with (fail)
    go_cut [] (fun wx => Hid (OMid w wx B G D K dt s' kl1 td1 D1 dc1 K1 kc1 E ec #[.int .i64 c, .int .i64 f, .slice E (List.length dt) ec, .bool b1, .bool b2, .bool b3, .int .i64 (sd.leftOf s')]))
    case first =>
      go_wp2
      go_loopw [8] (fun i wx => ∃ p : Nat, p ≤ n ∧ i = .int .i64 (p : Int) ∧ Hid (OMid w wx B G D K dt s' kl1 td1 D1 dc1 K1 kc1 E ec #[.int .i64 c, .int .i64 f, .slice E (List.length dt) ec, .bool b1, .bool b2, .bool b3, .int .i64 (en - sd.cnt (sd.PB kl1) 0 p)])) (fun i _ => n - (intOf i).toNat)
      case atStart => exact ⟨0, by omega, rfl, HM6⟩
      case round =>
        obtain ⟨p, hp, rfl, HK⟩ := hrel
        rename World => wx
        have c3 := HK.out.os.at_.blk.get 3
        simp only [List.getElem?_toArray, List.getElem?_cons_succ, List.getElem?_cons_zero] at c3
        rw [HN.out] at c3
        have hGx := HK.out.os.at_.blk.lt
        have zd := HK.out.box.get
        have ze := HK.out.box.frozen
        have lx := HK.out.box.lt
        by_cases hpn : p < n
        · have hpn' : (p : Int) < (n : Int) := by omega
          have hcb := sd.cnt_bd (sd.PB kl1) 0 p
          have hcs := sd.cnt_step kl1 p
          obtain ⟨v, hv⟩ : ∃ v, en - sd.cnt (sd.PB kl1) 0 p = v := ⟨_, rfl⟩
          have hvb : 0 ≤ v ∧ v ≤ 1048576 := by omega
          have HHP : Hid (∀ b', kl1.getD p false = b' → Calls Try.prog 52 #[.pointer (some ⟨G, 0, none⟩), .int .i64 (p : Int)] wx fun e w' => e = .returned (.bool b') ∧ wx = w') := Lib.hid (fun b' hb' => hb' ▸ ref_heard B G s'.data s'.closed s'.edge s'.next kl1 td1 D1 dc1 K1 kc1 p wx HK.out.os.at_ (by omega))
          rw [hv] at HK
          simp only [hv] at zd
          cases hb : kl1.getD p false with
          | true =>
            have HHP := Lib.hid (HHP.out true hb)
            have HNX : Hid (v - 1 = en - sd.cnt (sd.PB kl1) 0 (p + 1)) := Lib.hid (by rw [hcs, hb, if_pos rfl]; omega)
            clear hb hcs hcb hv
            go_wp2_with (first
              | (go_at_call 52; ((with_reducible refine HHP.out.mono ?_); rintro e _ ⟨rfl, rfl⟩))
              | fail)
            go_roundw
            case rel => exact ⟨p + 1, by omega, by go_num, Lib.hid (by rw [← HNX.out]; exact HK.out.touch (Stays.set _ _ _ _) (by simpa using HK.out.box.set 6 (.int .i64 (v - 1))))⟩
            case measure => simp [intOf]; omega
          | false =>
            have HHP := Lib.hid (HHP.out false hb)
            have HNX : Hid (v = en - sd.cnt (sd.PB kl1) 0 (p + 1)) := Lib.hid (by rw [hcs, hb, if_neg (by simp)]; omega)
            clear hb hcs hcb hv
            go_wp2_with (first
              | (go_at_call 52; ((with_reducible refine HHP.out.mono ?_); rintro e _ ⟨rfl, rfl⟩))
              | fail)
            go_roundw
            case rel => exact ⟨p + 1, by omega, by go_num, Lib.hid (by rw [← HNX.out]; exact HK.out)⟩
            case measure => simp [intOf]; omega
        · obtain rfl : p = n := by omega
          have hpn' : decide (p < p) = false := by simp
          rw [HLF.out] at HK
          go_wp2
          go_meet
          exact HK
    case rest =>
      rename World => w7
      have HF7 := hcut
      have hb7 := HF7.out.box.get
      have hf7 := HF7.out.box.frozen
      have hr7 := HF7.out.res.get
      have hg7 := HF7.out.res.frozen
      have l7 := HF7.out.box.lt
      have m7 := HF7.out.res.lt
      have HFIN : Hid (∀ wx, Stays w7 wx (fun k => k = w.heap.size + 1) → DeedRes w B G (sd.doIt s ⟨dk, dd, da, dw, ds⟩) D K (.returned (.agg #[.int .i64 c, .int .i64 f, .slice E dt.length ec, .bool b1, .bool b2, .bool b3, .int .i64 (sd.leftOf s')])) wx) := Lib.hid (fun wx hs => by
        unfold sd.doIt
        rw [HST.out]
        simp only
        have hM := HF7.out
        have hlt := hM.own.lt
        have hd := hM.own.stays hs (fun k hk e => by have := (hlt k hk).1; omega)
        refine ⟨[.int .i64 c, .int .i64 f, .slice E dt.length ec, .bool b1, .bool b2, .bool b3, .int .i64 (sd.leftOf s')], kl1, td1, D1, dc1, K1, kc1, rfl, Sent.rep_iff.2 ⟨E, ec, rfl, ?_⟩, hM.os.stays hs (fun k hk e => (hM.nohf hk).2 e), hM.stay.trans hs (fun k hk e => by omega), fun k hk => (hM.nm k hk).imp id (fun e => by omega)⟩
        exact ((Own.u8 hd).2.tight flat_u8).keep fun k hk => ⟨⟨by have := (hlt k hk).1; omega, (hd.lt k hk).2, hM.far k hk⟩, rfl⟩)
      clear HM HM6 HLF hcut
      go_wp2
      refine bodyPost_ret (v := .agg #[.int .i64 c, .int .i64 f, .slice E dt.length ec, .bool b1, .bool b2, .bool b3, .int .i64 (sd.leftOf s')]) (by simp [results, Try.results27, go_sem, *]) rfl (HFIN.out _ ?_)
      exact Stays.seven _ _ _ _ _ _ _ _ _
end
end Go.Proofs.Ytdldfllllgogoaa
namespace Go.Proofs.Ytdldfllllgogoaa
open Go.RowKit
set_option linter.unusedSimpArgs false

theorem OS.start {w : World} {B G : Nat} {window : Int} (h : OAt w B G [] false window 0 [] 0 none 0 none 0) : OS w B G (sd.start window) [] 0 none 0 none 0 := by
  refine ⟨h, fun n => ?_, Int.le_refl _, Int.le_refl _, Int.le_refl _, fun x x1 x2 => by have x2' : x < 0 := x2; omega⟩
  constructor
  · intro e
    simp at e
  · rintro (e | ⟨r, hr, _⟩)
    · have e' : (n : Int) < 0 := e
      omega
    · cases hr
theorem OS.ofs {w : World} {B G : Nat} {s : sd.St} {kl : List Bool} {todo : Int} {D : Option Addr} {dc : Nat} {K : Option Addr} {kc : Nat} (h : OS w B G s kl todo D dc K kc) {k : Nat} (hk : OF G D K k) : B ≤ k := by
  rcases hk with rfl | e | e
  · exact h.at_.lo
  · exact (h.at_.data.lt k e).1
  · exact (h.at_.known.lt k e).1
set_option maxHeartbeats 400000 in
theorem ref_SendPlayed_range (window : Int) (n c : Nat) (A : Option Addr) (w : World) (h : window < 0 ∨ 65535 < window) :
    Calls Try.prog 14 #[.int .i64 window, .slice A n c] w fun e w' => e = .returned (.tuple #[.slice none 0 0, .int .i64 2]) ∧ w = w' := by
  by_cases h0 : window < 0
  · go_enter Try.func14, Try.ntmps14
    go_wp2
    go_ret2
    exact ⟨rfl, rfl⟩
  · have h1 : 65535 < window := by omega
    clear h
    go_enter Try.func14, Try.ntmps14
    go_wp2
    go_ret2
    exact ⟨rfl, rfl⟩
set_option maxHeartbeats 400000 in
theorem ref_SendPlayed_long (window : Int) (n c : Nat) (A : Option Addr) (w : World) (h0 : 0 ≤ window) (h1 : window ≤ 65535) (h : 300 < n) (hn : n ≤ 140737488351232) :
    Calls Try.prog 14 #[.int .i64 window, .slice A n c] w fun e w' => e = .returned (.tuple #[.slice none 0 0, .int .i64 1]) ∧ w = w' := by
  have h2 : ¬ window < 0 := by omega
  have h3 : ¬ 65535 < window := by omega
  go_enter Try.func14, Try.ntmps14
  go_wp2
  go_ret2
  exact ⟨rfl, rfl⟩
set_option maxRecDepth 100000 in
set_option maxHeartbeats 2000000 in
theorem ref_SendPlayed_ok (window : Int) (l : List Deed) (A : Option Addr) (c : Nat) (w : World) (h0 : 0 ≤ window) (h1 : window ≤ 65535) (hl : SlRep Deed.rep w (· < w.heap.size) l A c) (hlen : l.length ≤ 300) (hd : ∀ a ∈ l, (IntOk a.ack ∧ IntOk a.window) ∧ a.data.length ≤ 140737488351232 ∧ a.sacks.length ≤ 140737488351232) :
    Calls Try.prog 14 #[.int .i64 window, .slice A l.length c] w (RowsRes Sent.rep (sd.play window l) w) := by
  have HL := Lib.hid hl
  have HP : Hid (sd.play window l = .ok (sd.afterAll window l l.length).1) := Lib.hid (by unfold sd.play; rw [if_neg (by omega), if_neg (by omega)])
  have HD : Hid (∀ k, k < l.length → (IntOk (l.getD k sd.zd).ack ∧ IntOk (l.getD k sd.zd).window) ∧ (l.getD k sd.zd).data.length ≤ 140737488351232 ∧ (l.getD k sd.zd).sacks.length ≤ 140737488351232) := Lib.hid (fun k hk => hd _ (by rw [List.getD_eq_getElem?_getD, List.getElem?_eq_getElem hk]; exact List.getElem_mem hk))
  have HI := Lib.hid (fun k => sd.Inv.afterAll h0 h1 l k)
  have HRM := Lib.hid (And.intro h0 h1)
  have h2 : ¬ window < 0 := by omega
  have h3 : ¬ 65535 < window := by omega
  clear hl hd
  go_enter Try.func14, Try.ntmps14
  go_wp2_with (first
    | (go_at_call 26; ((refine (ref_NewOutlet window _).mono ?_); rintro e w1 ⟨rfl, hN, hb1⟩; have HN := Lib.hid (OS.start hN); have HB1 := Lib.hid hb1; clear hN hb1))
    | fail)
  clear h2 h3
  go_loopw [7, 23] (fun out i wr => ∃ (k : Nat) (Ao : Option Addr) (co : Nat) (xs : List Value) (kl : List Bool) (td : Int) (D : Option Addr) (dc : Nat) (M : Option Addr) (mc : Nat), k ≤ l.length ∧ i = .int .i64 k ∧ out = .slice Ao k co ∧ Hid (OS wr w.heap.size w.heap.size (sd.afterAll window l k).2 kl td D dc M mc ∧ Coll Sent.rep wr w.heap.size 49 7 Ao k co (OF w.heap.size D M) (sd.afterAll window l k).1 xs ∧ Below w.heap.size w wr)) (fun _ i _ => l.length - (intOf i).toNat)
  case atStart => exact ⟨0, none, 0, [], [], 0, none, 0, none, 0, by omega, rfl, rfl, Lib.hid ⟨HN.out, Coll.nil _ _ _ _ _, HB1.out⟩⟩
  case round =>
    obtain ⟨k, Ao, co, xs, kl, td, D, dc, M, mc, hk, rfl, rfl, HR⟩ := hrel
    rename World => wr
    obtain ⟨hH, hC, hB⟩ := HR.out
    by_cases hlt : k < l.length
    · obtain ⟨b, o, rfl, hb, G, gc, R, rc, e0, e1, e2, e3, e4, hg, hg2⟩ := Deed.cells_at sd.zd (HL.out.below hB) hlt
      have hlt' : (k : Int) < (l.length : Int) := by omega
      have hbr : b < wr.heap.size := Nat.lt_of_lt_of_le hb hB.size
      have hdl := HD.out k hlt
      have HAF := Lib.hid (sd.afterAll_succ (w := window) (l := l) (k := k) (a := l.getD k sd.zd) (by rw [List.getD_eq_getElem?_getD, List.getElem?_eq_getElem hlt]; rfl))
      have HGL := Lib.hid hg
      have HGL2 := Lib.hid hg2
      have HH := Lib.hid hH
      have HC := Lib.hid hC
      have HB := Lib.hid hB
      have HIk := Lib.hid (HI.out k)
      have hsz : w.heap.size ≤ wr.heap.size := hB.size
      clear hg hg2 hH hC hB HR HL HD HN HB1
      generalize l.getD k sd.zd = a at *
      generalize (sd.afterAll window l k).2 = s at *
      generalize (sd.afterAll window l k).1 = L at *
      go_wp2_with (first
        | (go_at_call 27; ((refine (ref_Deed w.heap.size w.heap.size s kl td D dc M mc a G gc R rc _ (HH.out.next (balloc (bself wr) _)) HIk.out (HGL.out.keep fun q hq => ⟨by simp only [World.size_alloc]; omega, Below.heap_alloc wr _ q (by omega)⟩) (HGL2.out.keep fun q hq => ⟨by simp only [World.size_alloc]; omega, Below.heap_alloc wr _ q (by omega)⟩) hdl.1.1 hdl.1.2 hdl.2.1 hdl.2.2).mono ?_); rintro e w5 ⟨cs, kl5, td5, D5, dc5, M5, mc5, rfl, g1, g2, g3', g4⟩; have g3 := g3'.mono (No2 := OF w.heap.size D M) (fun _ _ e => .inl e); obtain ⟨Ad, cd, rfl, g5⟩ := Sent.rep_iff.1 g1; have HC5 := Lib.hid ((HC.out.next (balloc (bself wr) _)).stays g3 g4); have G1 := Lib.hid g1; have G2 := Lib.hid g2; have G3 := Lib.hid g3; have G4 := Lib.hid g4; have hs5 := g3.size; clear g1 g2 g3 g3' g4 g5))
        | (at_builtin; refine wp_app _ rfl _ _ _ rfl elemSent w.heap.size Ao k co xs rfl (HC5.out.own.alloc _) _ 1 1 [_, _, _, _, _, _, _] rfl rfl (Cells.newAt _ _ _ rfl) (by simp [Value.oneCell']) (by omega) (by unfold maxLen; omega) (by simp only [World.size_alloc] at *; omega) ?_; intro A6 c6 w6 hO6 hg6; have HO6 := Lib.hid hO6; have HG6 := Lib.hid hg6; clear hO6 hg6)
        | fail)
      go_roundw
      case rel =>
        have hs5' : wr.heap.size + 1 ≤ w5.heap.size := by simpa using hs5
        have hC6 := HC5.out.push (a := (sd.doIt s a).1) (Sent.rep.mono G1.out (fun q hq => ⟨⟨by have := hq.1; simp only [World.size_alloc] at this; omega, hq.2.1, fun e => by have := (HC.out.own.lt q e).2; have := hq.1; simp only [World.size_alloc] at this; omega, hq.2.2⟩, rfl⟩)) (balloc (bself w5) _) HG6.out HO6.out (fun q hq => G2.out.lts q hq)
        have hF6 := G2.out.stays ((Stays.of_below (balloc (bself w5) _) (fun j => blkOf Ao = some j)).comp (Stays.grew HG6.out)) (fun j hj e => HC5.out.far _ e hj)
        have hB6 : Below w.heap.size w w6 := by
          have b1 : Below w.heap.size w (wr.alloc (.cells #[.int .i64 a.kind, .slice G a.data.length gc, .int .i64 a.ack, .int .i64 a.window, .slice R a.sacks.length rc] 82)) := balloc HB.out _
          have b2 := G3.out.below (B := w.heap.size) (by simp only [World.size_alloc]; omega) (fun q hq => (HH.out.ofs hq))
          exact (balloc (b1.trans b2) _).trans (HG6.out.below (by simp only [World.size_alloc]; omega) (fun j hj => (HC5.out.own.lt j hj).1))
        exact ⟨k + 1, A6, c6, _, kl5, td5, D5, dc5, M5, mc5, by omega, by go_num, rfl, Lib.hid (by rw [HAF.out]; exact ⟨hF6, hC6, hB6⟩)⟩
      case measure => simp [intOf]; omega
    · obtain rfl : k = l.length := by omega
      have HRS : Hid (RowsRes Sent.rep (sd.play window l) w (.returned (.tuple #[.slice Ao l.length co, .int .i64 0])) wr) := Lib.hid (by
        have h := hC.rep rfl (by decide)
        exact RowsRes.yes (L := (sd.afterAll window l l.length).1) HP.out h.1 h.2 hB)
      clear hH hC hB HR HL HD HN HB1 HI HP
      go_wp2
      go_ret2
      exact HRS.out
theorem ref_SendPlayed_res (window : Int) (l : List Deed) (A : Option Addr) (c : Nat) (w : World) (hl : SlRep Deed.rep w (· < w.heap.size) l A c) (hlen : l.length ≤ 140737488351232) (hd : ∀ a ∈ l, (IntOk a.ack ∧ IntOk a.window) ∧ a.data.length ≤ 140737488351232 ∧ a.sacks.length ≤ 140737488351232) :
    Calls Try.prog 14 #[.int .i64 window, .slice A l.length c] w (RowsRes Sent.rep (sd.play window l) w) := by
  by_cases h1 : window < 0 ∨ 65535 < window
  · refine (ref_SendPlayed_range window _ c A w h1).mono ?_
    rintro e w' ⟨rfl, rfl⟩
    exact RowsRes.no (by unfold sd.play; rw [if_pos h1]) (bself w)
  by_cases h : 300 < l.length
  · refine (ref_SendPlayed_long window _ c A w (by omega) (by omega) h hlen).mono ?_
    rintro e w' ⟨rfl, rfl⟩
    exact RowsRes.no (by unfold sd.play; rw [if_neg h1, if_pos h]) (bself w)
  · exact ref_SendPlayed_ok window l A c w (by omega) (by omega) hl (by omega) hd
end Go.Proofs.Ytdldfllllgogoaa
namespace Go.Proofs.Ytdldfllllgogoaa
open Go.RowKit
set_option linter.unusedSimpArgs false

def sd.zs : Sent := ⟨0, 0, [], false, false, false, 0⟩
set_option maxRecDepth 100000 in
set_option maxHeartbeats 2000000 in
theorem lawSendPlays_walk {w : World} (window : Int) (_ : IntOk window) (l : List Deed) (A : Option Addr) (c : Nat) (hl : SlRep Deed.rep w (· < w.heap.size) l A c) (hok : AllOk 72 Deed.ok l) :
    Calls Try.prog 5 #[.int .i64 window, .slice A l.length c] w fun e w' => e = .returned (.bool true) ∧ Below w.heap.size w w' := by
  have hn : l.length ≤ 140737488351232 := by have := hok.2; omega
  have hd : ∀ a ∈ l, (IntOk a.ack ∧ IntOk a.window) ∧ a.data.length ≤ 140737488351232 ∧ a.sacks.length ≤ 140737488351232 := fun a ha => by
    obtain ⟨_, h1, h2, h3, h4⟩ := hok.1 a ha
    exact ⟨⟨h2, h3⟩, by have := h1.2; omega, by have := h4.2; omega⟩
  have HL := Lib.hid hl
  have HD := Lib.hid hd
  clear hl hok hd
  go_enter Try.func5, Try.ntmps5
  go_wp2_with fail
  refine (send_Play_res window l A c w HL.out hn HD.out).mono ?_
  rintro e w1 ⟨B1, d1, rfl, ho1, hb1⟩
  have HO1 := Lib.hid ho1
  clear ho1
  go_wp2_with fail
  refine (ref_SendPlayed_res window l A c w1 (HL.out.next hb1) hn HD.out).mono ?_
  rintro e w2 ⟨B2, d2, rfl, ho2, hb2⟩
  have R1 : Hid (SlRep Sent.rep w2 (· < w2.heap.size) (exL (sd.play window l)) B1 d1) := Lib.hid (HO1.out.keep fun q hq => ⟨Nat.lt_of_lt_of_le hq.2 hb2.size, hb2.block q hq.2⟩)
  have R2 : Hid (SlRep Sent.rep w2 (· < w2.heap.size) (exL (sd.play window l)) B2 d2) := Lib.hid (ho2.keep fun q hq => ⟨hq.2, rfl⟩)
  have hmo : (exL (sd.play window l)).length ≤ 9223372036854775807 := by have := ho2.1; have := ho2.2.1; unfold maxLen at this; omega
  have hB2 : Below w.heap.size w w2 := bnext hb1 hb2
  clear ho2 HO1 hb1 hb2 HL HD
  generalize exL (sd.play window l) = o at *
  generalize exC (sd.play window l) = er at *
  go_wp2
  go_loopw [9] (fun i wr => ∃ k : Nat, k ≤ o.length ∧ i = .int .i64 k ∧ Below w2.heap.size w2 wr) (fun i _ => o.length - (intOf i).toNat)
  case atStart => exact ⟨0, by omega, rfl, Below.refl _ _⟩
  case round =>
    obtain ⟨k, hk, rfl, hB⟩ := hrel
    rename World => wr
    by_cases hlt : k < o.length
    · obtain ⟨b1, o1, rfl, hb1, A1, c1, p0, p1, p2, p3, p4, p5, p6, s1⟩ := Sent.cells_at sd.zs (R1.out.below hB) hlt
      obtain ⟨b2, o2, rfl, hb2, A2, c2, q0, q1, q2, q3, q4, q5, q6, s2⟩ := Sent.cells_at sd.zs (R2.out.below hB) hlt
      have hlt' : (k : Int) < (o.length : Int) := by omega
      have hz := hB.size
      have hb1' : b1 < wr.heap.size := by omega
      have hb2' : b2 < wr.heap.size := by omega
      have hlen : (o.getD k sd.zs).data.length ≤ 9223372036854775807 := by have := s1.1; have := s1.2.1; unfold maxLen at this; omega
      have S1 := Lib.hid s1
      have S2 := Lib.hid s2
      have HB := Lib.hid hB
      clear s1 s2 hB
      generalize o.getD k sd.zs = x at *
      obtain ⟨xc, xf, xd, xn, xa, xi, xl⟩ := x
      dsimp only at p0 p1 p2 p3 p4 p5 p6 q0 q1 q2 q3 q4 q5 q6 S1 S2 hlen
      have hbc : (xc != xc) = false := by simp
      have hbf : (xf != xf) = false := by simp
      have hbn : (xn != xn) = false := by simp
      have hba : (xa != xa) = false := by simp
      have hbi : (xi != xi) = false := by simp
      have hbl : (xl != xl) = false := by simp
      have HSB := Lib.hid (fun wx (hb : Below w2.heap.size w2 wx) => law_sameBytes xd A1 A2 c1 c2 (· < w2.heap.size) (· < w2.heap.size) wx (S1.out.keep fun q hq => ⟨hq, ((hb.block q hq).trans (HB.out.block q hq).symm)⟩) (S2.out.keep fun q hq => ⟨hq, ((hb.block q hq).trans (HB.out.block q hq).symm)⟩) hlen)
      go_wp2_with (first
        | (go_at_call 9; ((refine (HSB.out _ (balloc (balloc HB.out _) _)).mono ?_); rintro e w6 ⟨rfl, hb6⟩; have HB7 : Hid (Below w2.heap.size w2 w6) := Lib.hid ((balloc (balloc HB.out _) _).trans (hb6.mono (by simp only [World.size_alloc]; omega))); clear hb6))
        | fail)
      go_roundw
      case rel => exact ⟨k + 1, by omega, by go_num, HB7.out⟩
      case measure => simp [intOf]; omega
    · go_wp2
      go_ret
      exact ⟨rfl, bnext hB2 hB⟩
end Go.Proofs.Ytdldfllllgogoaa
