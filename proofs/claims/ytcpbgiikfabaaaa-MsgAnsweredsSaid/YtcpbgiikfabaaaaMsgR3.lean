/- Package msg: Answer. No condition. -/
import Derived.Test.YtcpbgiikfabaaaaMsgR2
import Derived.Deep.DeepCutAuto
namespace Go.Proofs.Ytcpbgiikfabaaaa
open Go.RowKit

theorem mr_put (B C D : Nat) (r : Reply) (Ad : Option Addr) (cd : Nat) (An : Option Addr) (cn : Nat) (s : mr.Sel) (base : Nat) (Ab : Option Addr) (cb : Nat) (xs : List UInt8) (w : World) (h : mr.At w B r Ad cd An cn) (hC : mr.Box w C r.code) (hD : mr.Box w D (r.names.length : Int)) (hd : SlRep Rep.u8 w (· < base) r.data Ad cd) (hf : mr.fault r = 0)
    (ho : Own w base 5 1 Ab xs.length cb (xs.map u8v)) (hb : base ≤ w.heap.size) (hx : xs.length ≤ 1048576) :
    Calls Try.prog 22 #[.agg (mr.cells B C D s).toArray, .slice Ab xs.length cb] w (mg.PutRes base xs (mr.put r (r.names.length : Int) s) w) := by
  have hp := mr.fault_parts hf
  match s with
  | .mark => have hi := mr.num_ok hf 0 .mark rfl (by decide); exact put_num B 0 4 (by omega) r.mark base Ab cb xs w hi.1 hi.2 (h.cell 0) ho hb hx
  | .code => have hi := mr.num_ok hf 0 .code rfl (by decide); exact put_num C 0 1 (by omega) r.code base Ab cb xs w hi.1 hi.2 hC.cell ho hb hx
  | .handle => have hi := mr.num_ok hf 0 .handle rfl (by decide); exact put_num B 2 4 (by omega) r.handle base Ab cb xs w hi.1 hi.2 (h.cell 2) ho hb hx
  | .kind => have hi := mr.num_ok hf 0 .kind rfl (by decide); exact put_num B 3 1 (by omega) r.kind base Ab cb xs w hi.1 hi.2 (h.cell 3) ho hb hx
  | .size => have hi := mr.num_ok hf 0 .size rfl (by decide); exact put_num B 4 4 (by omega) r.size base Ab cb xs w hi.1 hi.2 (h.cell 4) ho hb hx
  | .data => exact put_data B 5 r.data Ad cd base Ab cb xs w (h.cell 5) hd ho hb hx (by omega)
  | .count => exact put_num D 0 1 (by omega) (r.names.length : Int) base Ab cb xs w (by omega) (by omega) hD.cell ho hb hx
theorem mr.put_len {r : Reply} (h : mr.fault r = 0) (n : Int) (s : mr.Sel) : (mr.put r n s).length ≤ 102 := by
  have hp := mr.fault_parts h
  unfold mr.put
  split
  · rw [mg.be_len]; cases s <;> decide
  · rw [List.length_append, mg.be_len]; omega
theorem mr.bytes_len {r : Reply} (h : mr.fault r = 0) (n : Int) : ∀ l : List mr.Sel, (l.flatMap (mr.put r n)).length ≤ l.length * 102
  | [] => by simp
  | x :: t => by
    have h1 := mr.put_len h n x
    have h2 := mr.bytes_len h n t
    simp only [List.flatMap_cons, List.length_append, List.length_cons]
    omega
theorem mr.texts_len : ∀ l : List (List UInt8), (∀ s ∈ l, s.length ≤ 16) → (l.flatMap mr.text).length ≤ l.length * 18
  | [], _ => by simp
  | x :: t, h => by
    have h1 := h x (by simp)
    have h2 := mr.texts_len t (fun s hs => h s (by simp [hs]))
    simp only [List.flatMap_cons, List.length_append, List.length_cons, mr.text, mg.be_len]
    omega
theorem mr.names_len {r : Reply} (h : mr.fault r = 0) : ∀ s ∈ mr.lists r.names, s.length ≤ 16 := by
  intro s hs
  have h3 := (mr.fault_parts h).2.2
  rw [List.all_eq_true] at h3
  have h4 := h3 s hs
  unfold pa.name at h4
  simp only [Bool.and_eq_true, decide_eq_true_eq] at h4
  exact h4.1.1.1.2
theorem mr.flat_take {α β : Type} (f : α → List β) (z : α) {l : List α} {k : Nat} (hk : k < l.length) : (l.take (k + 1)).flatMap f = (l.take k).flatMap f ++ f (l.getD k z) := by
  have e : l.take (k + 1) = l.take k ++ [l[k]] := by rw [List.take_add_one, List.getElem?_eq_getElem hk]; rfl
  rw [e, List.flatMap_append, List.getD_eq_getElem?_getD, List.getElem?_eq_getElem hk]
  simp

set_option maxRecDepth 100000 in
set_option maxHeartbeats 8000000 in
theorem msg_Answer_res (r : Reply) (Ad : Option Addr) (cd : Nat) (An : Option Addr) (cn : Nat) (w : World) (hr : mr.Ok r) (hd : SlRep Rep.u8 w (· < w.heap.size) r.data Ad cd) (hl : SlRep Rep.str w (· < w.heap.size) r.names An cn) (hn : r.names.length ≤ 140737488351232) (hs : ∀ s ∈ r.names, s.size ≤ 140737488351232) :
    Calls Try.prog 13 #[.agg (mr.vals r Ad cd An cn).toArray] w (BytesRes (mr.answer r) w) := by
  have HN := Lib.hid (mr.At.new w r Ad cd An cn)
  have HD := Lib.hid hd
  have HL := Lib.hid hl
  have HFC := Lib.hid (fun w' (hb : Below w.heap.size w w') => msg_fault r Ad cd An cn w' hr (hl.next hb) hn hs)
  clear hd hl hs hr hn
  by_cases hf : mr.fault r = 0
  · have HE : Hid (mr.answer r = .ok (mr.bytes r)) := Lib.hid (by unfold mr.answer; rw [if_neg (fun h => h hf)])
    have HF := Lib.hid hf
    rw [hf] at HFC
    have hp := mr.fault_parts hf
    clear hf
    unfold mr.vals
    go_enter Try.func13, Try.ntmps13
    go_wp2_with (first
      | (go_at_call 30; refine (HFC.out _ (by exact balloc (bself w) _)).mono ?_; rintro e w1 ⟨rfl, hb1⟩; have HA1 := Lib.hid (HN.out.next hb1); have HB1 := Lib.hid (bnext (balloc (bself w) _) hb1); have z1 := HA1.out.cell 1; have z6 := HA1.out.cell 6; simp only [mr.vals, List.getElem?_cons_zero, List.getElem?_cons_succ] at z1 z6; have hz1 : w.heap.size < w1.heap.size := HA1.out.lt; clear hb1)
      | fail)
    have HC2 : Hid (mr.Box ((w1.alloc (.cells #[.int .i64 r.code] 3)).alloc (.cells #[.int .i64 (r.names.length : Int)] 3)) w1.heap.size r.code) := Lib.hid ((mr.Box.new w1 r.code).next (balloc (bself _) _))
    have HD2 : Hid (mr.Box ((w1.alloc (.cells #[.int .i64 r.code] 3)).alloc (.cells #[.int .i64 (r.names.length : Int)] 3)) (w1.heap.size + 1) (r.names.length : Int)) := Lib.hid (by
      have h := mr.Box.new (w1.alloc (.cells #[.int .i64 r.code] 3)) (r.names.length : Int)
      rw [World.size_alloc] at h
      exact h)
    have HA2 := Lib.hid ((HA1.out.next (balloc (bself w1) (.cells #[.int .i64 r.code] 3))).next (balloc (bself _) (.cells #[.int .i64 (r.names.length : Int)] 3)))
    have HB2 := Lib.hid (balloc (balloc HB1.out (.cells #[.int .i64 r.code] 3)) (.cells #[.int .i64 (r.names.length : Int)] 3))
    generalize (w1.alloc (.cells #[.int .i64 r.code] 3)).alloc (.cells #[.int .i64 (r.names.length : Int)] 3) = w2 at *
    generalize w1.heap.size = C at *
    clear HA1 HB1 HN HFC z1 z6
    refine (msg_replied w.heap.size C (C + 1) w2).mono ?_
    rintro e w3 ⟨A3, c3, rfl, ho3, hb3⟩
    have HO3 := Lib.hid ho3
    have HA3 := Lib.hid (HA2.out.next hb3)
    have HC3 := Lib.hid (HC2.out.next hb3)
    have HD3 := Lib.hid (HD2.out.next hb3)
    have HB3 := Lib.hid (bnext HB2.out hb3)
    have HDD := Lib.hid (HD.out.next HB3.out)
    have HL3 := Lib.hid (HL.out.next HB3.out)
    have hz3 := hb3.size
    clear ho3 hb3 HA2 HC2 HD2 HB2 HD HL
    have hAn := HA3.out.cell 6
    simp only [mr.vals, List.getElem?_cons_zero, List.getElem?_cons_succ] at hAn
    have hBw : w.heap.size < w3.heap.size := HA3.out.lt
    go_wp2_with fail
    go_loopw [7, 9, 24] (fun s7 _ s24 wr => ∃ (k : Nat) (xs : List UInt8) (Ao : Option Addr) (co : Nat), s7 = .slice Ao xs.length co ∧ s24 = .int .i64 k ∧ k ≤ 7 ∧ Hid (xs = (mr.all7.take k).flatMap (mr.put r (r.names.length : Int)))
      ∧ Hid (Own wr w3.heap.size 5 1 Ao xs.length co (xs.map u8v)) ∧ Hid (Below w3.heap.size w3 wr)) (fun _ _ s24 _ => 7 - (intOf s24).toNat)
    case atStart => exact ⟨0, [], none, 0, rfl, rfl, by omega, Lib.hid (by simp), Lib.hid (Own.nil _ _ _ _), Lib.hid (Below.refl _ _)⟩
    case round =>
      obtain ⟨k, xs, Ao, co, rfl, rfl, hk, HXS, HO, HW⟩ := hrel
      rename World => wr
      by_cases hlt : k < 7
      · obtain ⟨g, rfl, hg1, hg2, hgc⟩ := mr.row_at_g (l := mr.all7) mr.Sel.mark (fun a => by obtain ⟨_, _, _, _, e⟩ := mr.cells_four w.heap.size C (C + 1) a; rw [e]; rfl) ((HO3.out.next (w' := w3) (by exact Below.refl _ _)).next HW.out) hlt
        have HS : Hid ((mr.all7.take (k + 1)).flatMap (mr.put r (r.names.length : Int)) = (mr.all7.take k).flatMap (mr.put r (r.names.length : Int)) ++ mr.put r (r.names.length : Int) (mr.all7.getD k .mark)) := Lib.hid (mr.flat_take _ mr.Sel.mark hlt)
        generalize hsl : mr.all7.getD k .mark = s at *
        clear hsl
        have hxl : xs.length ≤ 1048576 := by
          rw [HXS.out]
          have h1 := mr.bytes_len HF.out (r.names.length : Int) (mr.all7.take k)
          rw [List.length_take] at h1
          omega
        have HC : Hid (∀ o, Calls Try.prog 22 #[.agg (mr.cells w.heap.size C (C + 1) s).toArray, .slice Ao xs.length co] (wr.alloc o) (mg.PutRes w3.heap.size xs (mr.put r (r.names.length : Int) s) (wr.alloc o))) := Lib.hid (fun o =>
          mr_put w.heap.size C (C + 1) r Ad cd An cn s w3.heap.size Ao co xs (wr.alloc o) ((HA3.out.next HW.out).next (balloc (bself wr) o)) ((HC3.out.next HW.out).next (balloc (bself wr) o)) ((HD3.out.next HW.out).next (balloc (bself wr) o)) (HDD.out.keep fun k hk => ⟨hk, (balloc HW.out o).block k hk⟩) HF.out (HO.out.alloc o) (balloc HW.out o).size hxl)
        obtain ⟨a, b, cc, d, hcs⟩ := mr.cells_four w.heap.size C (C + 1) s
        rw [hcs] at HC
        have x0 := hgc 0 (by omega)
        have x1 := hgc 1 (by omega)
        have x2 := hgc 2 (by omega)
        have x3 := hgc 3 (by omega)
        simp only [hcs, List.getElem?_cons_zero, List.getElem?_cons_succ, Nat.add_zero] at x0 x1 x2 x3
        clear hgc hcs hxl
        go_wp2_with (first | (go_at_call 22; refine (HC.out _).mono ?_; rintro e w6 ⟨A6, c6, rfl, ho6, hb6⟩; have HO6 := Lib.hid ho6; have HB6 := Lib.hid hb6; clear ho6 hb6) | fail)
        go_roundw
        case rel => exact ⟨k + 1, xs ++ mr.put r (r.names.length : Int) s, A6, c6, by simp, by simp, by omega, Lib.hid (by rw [HS.out, ← HXS.out]), HO6, Lib.hid ((balloc HW.out _).trans HB6.out)⟩
        case measure => simp [intOf]; omega
      · obtain rfl : k = 7 := by omega
        have HX7 : Hid (xs = mr.all7.flatMap (mr.put r (r.names.length : Int))) := Lib.hid HXS.out
        clear HXS hlt hk
        rw [show ((7 : Nat) : Int) = (7 : Int) from rfl]
        have hAn2 := (HW.out.cell (p := ⟨w.heap.size, 6, none⟩) hBw).trans hAn
        have HW0 := HW
        have HO0 := HO
        go_wp2_with fail
        go_loopw [7, 11, 35] (fun s7 _ s35 wr => ∃ (k : Nat) (ys : List UInt8) (Ao : Option Addr) (co : Nat), s7 = .slice Ao ys.length co ∧ s35 = .int .i64 k ∧ k ≤ r.names.length ∧ Hid (ys = xs ++ ((mr.lists r.names).take k).flatMap mr.text)
          ∧ Hid (Own wr w3.heap.size 5 1 Ao ys.length co (ys.map u8v)) ∧ Hid (Below w3.heap.size w3 wr)) (fun _ _ s35 _ => r.names.length - (intOf s35).toNat)
        case atStart => exact ⟨0, xs, Ao, co, rfl, rfl, by omega, Lib.hid (by simp), HO0, HW0⟩
        case round =>
          clear HW HO HW0 HO0 hAn2
          obtain ⟨k, ys, Ao, co, rfl, rfl, hk, HYS, HO, HW⟩ := hrel
          rename_i wr
          by_cases hlt : k < r.names.length
          · obtain ⟨bn, on, rfl, hbn, hcn⟩ := str_at HL3.out hlt
            have hbn3 : bn < w3.heap.size := hbn
            have hcn2 := (HW.out.cell (p := ⟨bn, on + k, none⟩) hbn3).trans hcn
            obtain ⟨s, hs1, hs2⟩ := pa.of_strs hlt
            rw [hs2] at hcn2
            have hmem : s ∈ mr.lists r.names := by rw [hs1]; exact List.mem_map.2 ⟨_, by rw [List.getD_eq_getElem?_getD, List.getElem?_eq_getElem hlt]; exact List.getElem_mem hlt, rfl⟩
            have hsl := mr.names_len HF.out s hmem
            have hll : k < (mr.lists r.names).length := by unfold mr.lists; rw [List.length_map]; exact hlt
            have HS : Hid (((mr.lists r.names).take (k + 1)).flatMap mr.text = ((mr.lists r.names).take k).flatMap mr.text ++ mr.text s) := Lib.hid (by
              rw [mr.flat_take mr.text [] hll]
              congr 2
              rw [hs1]
              exact pa.lists_at hlt)
            have hxl : ys.length ≤ 1048576 := by
              rw [HYS.out, HX7.out, List.length_append]
              have h1 := mr.bytes_len HF.out (r.names.length : Int) mr.all7
              have h2 := mr.texts_len ((mr.lists r.names).take k) (fun s hs => mr.names_len HF.out s (List.mem_of_mem_take hs))
              rw [List.length_take] at h2
              have h3 : mr.all7.length = 7 := rfl
              omega
            clear hs1 hs2 hmem hcn hbn hll
            have hz := HW.out.size
            go_wp2_with (first
              | (go_at_call 32; refine (msg_text _ _).mono ?_; rintro e w5 ⟨rfl, hb5⟩; have hc5 : w5.cell? ⟨wr.heap.size, 0, none⟩ = some (.string (strOf s)) := (hb5.cell (p := ⟨wr.heap.size, 0, none⟩) (by simp)).trans (by rw [World.cell?_alloc_new]; rfl); have HW5 := Lib.hid ((balloc HW.out _).trans (hb5.mono (by simp; omega))); have HO5 := Lib.hid ((HO.out.next (balloc (bself wr) _)).next hb5); clear hb5)
              | (go_at_call 22; refine (put_text wr.heap.size 0 s w3.heap.size Ao co ys w5 hc5 HO5.out HW5.out.size hxl (by omega)).mono ?_; rintro e w6 ⟨A6, c6, rfl, ho6, hb6⟩; have HO6 := Lib.hid ho6; have HB6 := Lib.hid hb6; clear ho6 hb6)
              | fail)
            go_roundw
            case rel => exact ⟨k + 1, ys ++ mr.text s, A6, c6, by simp [mr.text], by simp, by omega, Lib.hid (by rw [HS.out, HYS.out, List.append_assoc]), HO6, Lib.hid (HW5.out.trans HB6.out)⟩
            case measure => simp [intOf]; omega
          · obtain rfl : k = r.names.length := by omega
            have HX2 : Hid (mr.bytes r = ys) := Lib.hid (by
              unfold mr.bytes
              rw [HYS.out, HX7.out, List.take_of_length_le (by unfold mr.lists; rw [List.length_map]; exact Nat.le_refl _)])
            go_wp2
            go_ret2
            exact BytesRes.yes (by rw [HE.out, HX2.out]) (HO.out.base_le HB3.out.size) (HB3.out.trans (HW.out.mono HB3.out.size))
  · obtain ⟨f, HF⟩ : ∃ f, Hid (mr.fault r = f) := ⟨_, Lib.hid rfl⟩
    have HE : Hid (mr.answer r = .error f) := Lib.hid (by unfold mr.answer; rw [if_pos hf, HF.out])
    have q1 : (f != 0) = true := bne_iff_ne.2 (by rw [← HF.out]; exact hf)
    rw [HF.out] at HFC
    clear hf
    unfold mr.vals
    go_enter Try.func13, Try.ntmps13
    go_wp2_with (first
      | (go_at_call 30; refine (HFC.out _ (by exact balloc (bself w) _)).mono ?_; rintro e w1 ⟨rfl, hb1⟩; have HB1 := Lib.hid (bnext (balloc (bself w) _) hb1); clear hb1)
      | fail)
    all_goals (go_ret2; exact BytesRes.no HE.out HB1.out)
end Go.Proofs.Ytcpbgiikfabaaaa
