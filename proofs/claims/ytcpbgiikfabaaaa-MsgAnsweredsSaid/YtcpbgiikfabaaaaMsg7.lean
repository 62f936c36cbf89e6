/- Package msg: Ask. No condition. -/
import Derived.Test.YtcpbgiikfabaaaaMsg6
import Derived.Deep.DeepCutAuto
namespace Go.Proofs.Ytcpbgiikfabaaaa
open Go.RowKit

theorem mg.allTo_zero {r : Request} : ∀ {l : List mg.Sel} {out : Int}, mg.allTo r out l = 0 → ∀ s, s ∈ l → mg.fit r s = 0
  | [], _, _, s, hs => by cases hs
  | x :: t, out, h, s, hs => by
    unfold mg.allTo at h
    by_cases h2 : mg.fit r x = 2
    · rw [if_pos h2] at h
      cases h
    · rw [if_neg h2] at h
      have hx : (if out = 0 then mg.fit r x else out) = 0 := by
        rw [mg.allTo_spec] at h
        generalize (if out = 0 then mg.fit r x else out) = o at *
        by_cases ho : o = 0
        · exact ho
        · rw [if_neg ho] at h
          split at h
          · cases h
          · exact h
      rcases List.mem_cons.1 hs with rfl | hs
      · by_cases ho : out = 0
        · rwa [if_pos ho] at hx
        · rw [if_neg ho] at hx
          exact absurd hx ho
      · rw [hx] at h
        exact mg.allTo_zero h s hs
theorem mg.put_len {r : Request} {s : mg.Sel} (h : mg.fit r s = 0) : (mg.put r s).length ≤ 202 := by
  have h1 : s.srt = .num → s.wide ≤ 4 := fun _ => by cases s <;> decide
  cases hs : s.srt with
  | num => simp only [mg.put, hs, mg.be_len]; have := h1 hs; omega
  | text => have := mg.fit_text hs h; simp only [mg.put, hs, List.length_append, mg.be_len]; omega
  | data => have := mg.fit_data hs h; simp only [mg.put, hs, List.length_append, mg.be_len]; omega
theorem mg.bytes_len {r : Request} : ∀ {l : List mg.Sel}, (∀ s, s ∈ l → mg.fit r s = 0) → (l.flatMap (mg.put r)).length ≤ l.length * 202
  | [], _ => by simp
  | x :: t, h => by
    have h1 := mg.put_len (h x (by simp))
    have h2 := mg.bytes_len (l := t) (fun s hs => h s (by simp [hs]))
    simp only [List.flatMap_cons, List.length_append, List.length_cons]
    omega

theorem mg.row_all {w w1 w2 w3 : World} {o : Obj} {r : Request} {A A1 A3 : Option Addr} {c c1 c3 : Nat} {xs : List Value} (hn : mg.At (w.alloc o) w.heap.size r A c) (hb1 : Below (w.alloc o).heap.size (w.alloc o) w1)
    (ho1 : Own w1 (w.alloc o).heap.size 50 4 A1 2 c1 xs) (hb2 : Below w1.heap.size w1 w2) (hg3 : Grew w2 w3 A1 A3)
    (ho3 : Own w3 (w.heap.size + 1) 50 4 A3 (2 + (mg.parts r.kind).length) c3 ([mg.Sel.kind, mg.Sel.mark].flatMap (mg.cells w.heap.size) ++ (mg.parts r.kind).flatMap (mg.cells w.heap.size))) :
    mg.At w3 w.heap.size r A c ∧ Below w.heap.size w w3 ∧ Own w3 (w.heap.size + 1) 50 4 A3 (mg.fields r).length c3 ((mg.fields r).flatMap (mg.cells w.heap.size)) := by
  have hW3 : Below (w.heap.size + 1) (w.alloc o) w3 := by
    rw [World.size_alloc] at hb1
    have h3 := hb1.trans (hb2.mono (by have := hb1.size; simpa using this))
    exact h3.trans (hg3.below (by have := h3.size; simpa using this) (fun k hk => (by simpa using (ho1.lt k hk).1)))
  refine ⟨hn.next (by simpa using hW3), (balloc (bself w) _).trans (hW3.mono (by omega)), ?_⟩
  have e : (mg.fields r).length = 2 + (mg.parts r.kind).length := by simp [mg.fields]; omega
  rw [e]
  have e2 : (mg.fields r).flatMap (mg.cells w.heap.size) = [mg.Sel.kind, mg.Sel.mark].flatMap (mg.cells w.heap.size) ++ (mg.parts r.kind).flatMap (mg.cells w.heap.size) := by simp [mg.fields]
  rw [e2]
  exact ho3

theorem mg.flat_take {r : Request} {l : List mg.Sel} {k : Nat} (hk : k < l.length) : (l.take (k + 1)).flatMap (mg.put r) = (l.take k).flatMap (mg.put r) ++ mg.put r (l.getD k .kind) := by
  have e : l.take (k + 1) = l.take k ++ [l[k]] := by rw [List.take_add_one, List.getElem?_eq_getElem hk]; rfl
  rw [e, List.flatMap_append, List.getD_eq_getElem?_getD, List.getElem?_eq_getElem hk]
  simp
theorem mg.fields_two (r : Request) : (mg.fields r).length = 2 + (mg.parts r.kind).length := by simp [mg.fields]; omega
theorem msg_all_fields (B : Nat) (r : Request) (A : Option Addr) (c : Nat) (Al : Option Addr) (cl base : Nat) (w : World) (hr : mg.Ok r) (h : mg.At w B r A c) (ho : Own w base 50 4 Al (mg.fields r).length cl ((mg.fields r).flatMap (mg.cells B))) :
    Calls Try.prog 21 #[.slice Al (2 + (mg.parts r.kind).length) cl] w fun e w' => e = .returned (.int .i64 (mg.allTo r 0 (mg.fields r))) ∧ Below w.heap.size w w' := by
  have := msg_all B r A c (mg.fields r) Al cl base w hr h ho (by have := mg.fields_len r; omega)
  rw [mg.fields_two] at this
  exact this

set_option maxRecDepth 100000 in
set_option maxHeartbeats 8000000 in
theorem msg_Ask_res (r : Request) (A : Option Addr) (c : Nat) (w : World) (hr : mg.Ok r) (hd : SlRep Rep.u8 w (· < w.heap.size) r.data A c) :
    Calls Try.prog 7 #[.agg (mg.vals r A c).toArray] w (BytesRes (mg.ask r) w) := by
  have HN := Lib.hid (mg.At.new w r A c)
  have HD := Lib.hid hd
  have HOK := Lib.hid hr
  clear hd hr
  go_enter Try.func7, Try.ntmps7
  by_cases hp : mg.parts r.kind = []
  · have HE : Hid (mg.ask r = .error 3) := Lib.hid (by unfold mg.ask; rw [if_pos hp])
    have HP := Lib.hid hp
    go_wp2_with (first
      | (go_at_call 18; refine (msg_begun w.heap.size _).mono ?_; rintro e w1 ⟨A1, c1, rfl, ho1, hb1⟩; have HO1 := Lib.hid ho1; have HB1 := Lib.hid hb1; clear ho1 hb1)
      | (go_at_call 19; refine (msg_parts w.heap.size r.kind _ (HN.out.next HB1.out).lt ((HN.out.next HB1.out).cell 0)).mono ?_; rintro e w2 ⟨A2, c2, rfl, ho2, hb2⟩; rw [HP.out] at ho2 ⊢; have HO2 := Lib.hid ho2; have HB2 := Lib.hid hb2; clear ho2 hb2)
      | (at_builtin; refine wp_app _ rfl _ _ _ rfl elemPart (w.heap.size + 1) A1 2 c1 _ rfl ((by have := HO1.out.next HB2.out; simpa using this)) A2 0 c2 [] rfl rfl HO2.out.cells (fun u hu => by cases hu) (by omega) (by unfold maxLen; omega) (by have h1 := HB1.out.size; have h2 := HB2.out.size; simp at h1; omega) ?_; intro A3 c3 w3 ho3 hg3; have HO3 := Lib.hid ho3; have HG3 := Lib.hid hg3; clear ho3 hg3)
      | fail)
    go_ret2
    refine BytesRes.no HE.out ?_
    have h1 := HB1.out
    rw [World.size_alloc] at h1
    have h3 := h1.trans (HB2.out.mono (by have := h1.size; simpa using this))
    have h4 := h3.trans (HG3.out.below (by have := h3.size; simpa using this) (fun k hk => (by simpa using (HO1.out.lt k hk).1)))
    exact (balloc (bself w) _).trans (h4.mono (by omega))
  · have HP := Lib.hid hp
    have q0 : ((2 + ((mg.parts r.kind).length : Int)) == 2) = false := by
      rw [beq_eq_false_iff_ne]
      have := List.length_pos_iff.2 hp
      omega
    clear hp
    cases hb : mg.bare r with
    | false =>
      have HE : Hid (mg.ask r = .error 4) := Lib.hid (by unfold mg.ask; rw [if_neg HP.out, if_pos hb])
      have HBR := Lib.hid hb
      clear hb
      go_wp2_with (first
        | (go_at_call 18; refine (msg_begun w.heap.size _).mono ?_; rintro e w1 ⟨A1, c1, rfl, ho1, hb1⟩; have HO1 := Lib.hid ho1; have HB1 := Lib.hid hb1; clear ho1 hb1)
        | (go_at_call 19; refine (msg_parts w.heap.size r.kind _ (HN.out.next HB1.out).lt ((HN.out.next HB1.out).cell 0)).mono ?_; rintro e w2 ⟨A2, c2, rfl, ho2, hb2⟩; have HO2 := Lib.hid ho2; have HB2 := Lib.hid hb2; clear ho2 hb2)
        | (at_builtin; refine wp_app _ rfl _ _ _ rfl elemPart (w.heap.size + 1) A1 2 c1 _ rfl ((by have := HO1.out.next HB2.out; simpa using this)) A2 (mg.parts r.kind).length c2 ((mg.parts r.kind).flatMap (mg.cells w.heap.size)) rfl (mg.row_len _ _) HO2.out.cells (mg.one _ _) (by have := mg.parts_len r.kind; omega) (by have := mg.parts_len r.kind; unfold maxLen; omega) (by have h1 := HB1.out.size; have h2 := HB2.out.size; simp at h1; omega) ?_; intro A3 c3 w3 ho3 hg3; obtain ⟨ha, hbb, hro⟩ := mg.row_all HN.out HB1.out HO1.out HB2.out hg3 ho3; have HA := Lib.hid ha; have HB := Lib.hid hbb; have HR := Lib.hid hro; clear ho3 hg3 hbb hro; have y0 := ha.cell 0; have y1 := ha.cell 1; have y2 := ha.cell 2; have y3 := ha.cell 3; have y4 := ha.cell 4; have y5 := ha.cell 5; have y6 := ha.cell 6; have y7 := ha.cell 7; have y8 := ha.cell 8; simp only [mg.vals, List.getElem?_cons_zero, List.getElem?_cons_succ] at y0 y1 y2 y3 y4 y5 y6 y7 y8; clear ha)
        | (go_at_call 20; refine (msg_bare r A c _).mono ?_; rintro e w4 ⟨rfl, hb4⟩; rw [HBR.out]; have HB4 := Lib.hid hb4; clear hb4 y0 y1 y2 y3 y4 y5 y6 y7 y8)
        | fail)
      go_ret2
      exact BytesRes.no HE.out (bnext HB.out HB4.out)
    | true =>
      have HBR := Lib.hid hb
      clear hb
      by_cases hf : mg.allTo r 0 (mg.fields r) = 0
      · have HE : Hid (mg.ask r = .ok (mg.bytes r)) := Lib.hid (by unfold mg.ask; rw [if_neg HP.out, if_neg (by rw [HBR.out]; decide), if_neg (fun h => h hf)])
        have HF := Lib.hid hf
        clear hf
        go_wp2_with (first
          | (go_at_call 18; refine (msg_begun w.heap.size _).mono ?_; rintro e w1 ⟨A1, c1, rfl, ho1, hb1⟩; have HO1 := Lib.hid ho1; have HB1 := Lib.hid hb1; clear ho1 hb1)
          | (go_at_call 19; refine (msg_parts w.heap.size r.kind _ (HN.out.next HB1.out).lt ((HN.out.next HB1.out).cell 0)).mono ?_; rintro e w2 ⟨A2, c2, rfl, ho2, hb2⟩; have HO2 := Lib.hid ho2; have HB2 := Lib.hid hb2; clear ho2 hb2)
          | (at_builtin; refine wp_app _ rfl _ _ _ rfl elemPart (w.heap.size + 1) A1 2 c1 _ rfl ((by have := HO1.out.next HB2.out; simpa using this)) A2 (mg.parts r.kind).length c2 ((mg.parts r.kind).flatMap (mg.cells w.heap.size)) rfl (mg.row_len _ _) HO2.out.cells (mg.one _ _) (by have := mg.parts_len r.kind; omega) (by have := mg.parts_len r.kind; unfold maxLen; omega) (by have h1 := HB1.out.size; have h2 := HB2.out.size; simp at h1; omega) ?_; intro A3 c3 w3 ho3 hg3; obtain ⟨ha, hbb, hro⟩ := mg.row_all HN.out HB1.out HO1.out HB2.out hg3 ho3; have HA := Lib.hid ha; have HB := Lib.hid hbb; have HR := Lib.hid hro; clear ho3 hg3 hbb hro; have y0 := ha.cell 0; have y1 := ha.cell 1; have y2 := ha.cell 2; have y3 := ha.cell 3; have y4 := ha.cell 4; have y5 := ha.cell 5; have y6 := ha.cell 6; have y7 := ha.cell 7; have y8 := ha.cell 8; simp only [mg.vals, List.getElem?_cons_zero, List.getElem?_cons_succ] at y0 y1 y2 y3 y4 y5 y6 y7 y8; clear ha)
          | (go_at_call 20; refine (msg_bare r A c _).mono ?_; rintro e w4 ⟨rfl, hb4⟩; rw [HBR.out]; have HB4 := Lib.hid hb4; clear hb4 y0 y1 y2 y3 y4 y5 y6 y7 y8)
          | (go_at_call 21; refine (msg_all_fields w.heap.size r A c A3 c3 (w.heap.size + 1) _ HOK.out (HA.out.next HB4.out) (HR.out.next HB4.out)).mono ?_; rintro e w5 ⟨rfl, hb5⟩; rw [HF.out]; have HB5 := Lib.hid hb5; clear hb5)
          | fail)
        have hn : 2 + (mg.parts r.kind).length = (mg.fields r).length := by simp [mg.fields]; omega
        have hn' : (2 + ((mg.parts r.kind).length : Int)) = (((mg.fields r).length : Nat) : Int) := by rw [← hn]; simp
        rw [hn, hn']
        clear hn hn'
        have HFT : Hid (∀ s, s ∈ mg.fields r → mg.fit r s = 0) := Lib.hid (mg.allTo_zero HF.out)
        have HA5 := Lib.hid ((HA.out.next HB4.out).next HB5.out)
        have HR5 := Lib.hid ((HR.out.next HB4.out).next HB5.out)
        have HB : Hid (Below w.heap.size w w5) := Lib.hid (bnext HB.out (bnext HB4.out HB5.out))
        have HD5 := Lib.hid (HD.out.next HB.out)
        have hfl := mg.fields_len r
        generalize hn : (mg.fields r).length = n at *
        have HNN := Lib.hid hn
        clear hn HO1 HB1 HO2 HB2 HA HR HB4 HB5 HD HN q0 HP HBR HF
        go_loopw [6, 8, 27] (fun s6 _ s27 wr => ∃ (k : Nat) (xs : List UInt8) (Ao : Option Addr) (co : Nat), s6 = .slice Ao xs.length co ∧ s27 = .int .i64 k ∧ k ≤ n ∧ Hid (xs = ((mg.fields r).take k).flatMap (mg.put r))
          ∧ Hid (Own wr w5.heap.size 5 1 Ao xs.length co (xs.map u8v)) ∧ Hid (Below w5.heap.size w5 wr)) (fun _ _ s27 _ => n - (intOf s27).toNat)
        case atStart => exact ⟨0, [], none, 0, rfl, rfl, by omega, Lib.hid (by simp), Lib.hid (Own.nil _ _ _ _), Lib.hid (Below.refl _ _)⟩
        case round =>
          obtain ⟨k, xs, Ao, co, rfl, rfl, hk, HXS, HO, HW⟩ := hrel
          rename World => wr
          by_cases hlt : k < n
          · have hlt2 : k < (mg.fields r).length := by rw [HNN.out]; exact hlt
            obtain ⟨g, rfl, hg1, hg2, hgc⟩ := mg.row_at (by have := HR5.out.next HW.out; rw [← HNN.out] at this; exact this) hlt2
            have hsx : (mg.fields r).getD k .kind = (mg.fields r)[k] := by rw [List.getD_eq_getElem?_getD, List.getElem?_eq_getElem hlt2]; rfl
            have hfit : mg.fit r ((mg.fields r).getD k .kind) = 0 := HFT.out _ (by rw [hsx]; exact List.getElem_mem hlt2)
            have HS : Hid (((mg.fields r).take (k + 1)).flatMap (mg.put r) = ((mg.fields r).take k).flatMap (mg.put r) ++ mg.put r ((mg.fields r).getD k .kind)) := Lib.hid (mg.flat_take hlt2)
            generalize hsl : (mg.fields r).getD k .kind = s at *
            clear hsl hsx hlt2
            have hxl : xs.length ≤ 1048576 := by
              rw [HXS.out]
              have h1 := mg.bytes_len (l := (mg.fields r).take k) (fun s hs => HFT.out s (List.mem_of_mem_take hs))
              rw [List.length_take] at h1
              omega
            have HC : Hid (∀ o, Calls Try.prog 22 #[.agg (mg.cells w.heap.size s).toArray, .slice Ao xs.length co] (wr.alloc o) (mg.PutRes w5.heap.size xs (mg.put r s) (wr.alloc o))) := Lib.hid (fun o =>
              msg_put w.heap.size r A c s w5.heap.size Ao co xs (wr.alloc o) HOK.out ((HA5.out.next HW.out).next (balloc (bself wr) o)) (HD5.out.below (balloc HW.out o)) hfit (HO.out.alloc o) (balloc HW.out o).size hxl)
            obtain ⟨a, b, cc, d, hcs⟩ := mg.cells_four w.heap.size s
            rw [hcs] at HC
            have x0 := hgc 0 (by omega)
            have x1 := hgc 1 (by omega)
            have x2 := hgc 2 (by omega)
            have x3 := hgc 3 (by omega)
            simp only [hcs, List.getElem?_cons_zero, List.getElem?_cons_succ, Nat.add_zero] at x0 x1 x2 x3
            clear hgc hcs hfit hxl
            go_wp2_with (first | (go_at_call 22; refine (HC.out _).mono ?_; rintro e w6 ⟨A6, c6, rfl, ho6, hb6⟩; have HO6 := Lib.hid ho6; have HB6 := Lib.hid hb6; clear ho6 hb6) | fail)
            go_roundw
            case rel => exact ⟨k + 1, xs ++ mg.put r s, A6, c6, by simp, by simp, by omega, Lib.hid (by rw [HS.out, ← HXS.out]), HO6, Lib.hid ((balloc HW.out _).trans HB6.out)⟩
            case measure => simp [intOf]; omega
          · obtain rfl : k = n := by omega
            have HX2 : Hid (mg.bytes r = xs) := Lib.hid (by unfold mg.bytes; rw [HXS.out, ← HNN.out, List.take_length])
            go_wp2
            go_ret2
            exact BytesRes.yes (by rw [HE.out, HX2.out]) (HO.out.base_le HB.out.size) (bnext HB.out HW.out)
      · have HE : Hid (mg.ask r = .error (mg.allTo r 0 (mg.fields r))) := Lib.hid (by unfold mg.ask; rw [if_neg HP.out, if_neg (by rw [HBR.out]; decide), if_pos hf])
        generalize hfv : mg.allTo r 0 (mg.fields r) = f at *
        have HF := Lib.hid hfv
        have q1 : (f != 0) = true := bne_iff_ne.2 hf
        clear hf hfv
        go_wp2_with (first
          | (go_at_call 18; refine (msg_begun w.heap.size _).mono ?_; rintro e w1 ⟨A1, c1, rfl, ho1, hb1⟩; have HO1 := Lib.hid ho1; have HB1 := Lib.hid hb1; clear ho1 hb1)
          | (go_at_call 19; refine (msg_parts w.heap.size r.kind _ (HN.out.next HB1.out).lt ((HN.out.next HB1.out).cell 0)).mono ?_; rintro e w2 ⟨A2, c2, rfl, ho2, hb2⟩; have HO2 := Lib.hid ho2; have HB2 := Lib.hid hb2; clear ho2 hb2)
          | (at_builtin; refine wp_app _ rfl _ _ _ rfl elemPart (w.heap.size + 1) A1 2 c1 _ rfl ((by have := HO1.out.next HB2.out; simpa using this)) A2 (mg.parts r.kind).length c2 ((mg.parts r.kind).flatMap (mg.cells w.heap.size)) rfl (mg.row_len _ _) HO2.out.cells (mg.one _ _) (by have := mg.parts_len r.kind; omega) (by have := mg.parts_len r.kind; unfold maxLen; omega) (by have h1 := HB1.out.size; have h2 := HB2.out.size; simp at h1; omega) ?_; intro A3 c3 w3 ho3 hg3; obtain ⟨ha, hbb, hro⟩ := mg.row_all HN.out HB1.out HO1.out HB2.out hg3 ho3; have HA := Lib.hid ha; have HB := Lib.hid hbb; have HR := Lib.hid hro; clear ho3 hg3 hbb hro; have y0 := ha.cell 0; have y1 := ha.cell 1; have y2 := ha.cell 2; have y3 := ha.cell 3; have y4 := ha.cell 4; have y5 := ha.cell 5; have y6 := ha.cell 6; have y7 := ha.cell 7; have y8 := ha.cell 8; simp only [mg.vals, List.getElem?_cons_zero, List.getElem?_cons_succ] at y0 y1 y2 y3 y4 y5 y6 y7 y8; clear ha)
          | (go_at_call 20; refine (msg_bare r A c _).mono ?_; rintro e w4 ⟨rfl, hb4⟩; rw [HBR.out]; have HB4 := Lib.hid hb4; clear hb4 y0 y1 y2 y3 y4 y5 y6 y7 y8)
          | (go_at_call 21; refine (msg_all_fields w.heap.size r A c A3 c3 (w.heap.size + 1) _ HOK.out (HA.out.next HB4.out) (HR.out.next HB4.out)).mono ?_; rintro e w5 ⟨rfl, hb5⟩; rw [HF.out]; have HB5 := Lib.hid hb5; clear hb5)
          | fail)
        go_ret2
        exact BytesRes.no HE.out (bnext HB.out (bnext HB4.out HB5.out))
end Go.Proofs.Ytcpbgiikfabaaaa
