/- Package fair: the reference. No condition. -/
import Derived.Test.YtedbidblnjajdaaFair7
import Derived.Deep.CutBlock
import Derived.Test.YtedbidblnjajdaaTail
namespace Go.Proofs.Ytedbidblnjajdaa
open Go.RowKit

theorem make_row {P : Program} {t e : TypeId} {i : TypeInfo} {z : Value} (ht : P.underlying t = some (.slice e)) (hi : P.info? e = some i) (hz : i.zero = some z) (hs : i.size = 1) (hzc : z.cells = #[z]) (n : Nat) (hby : i.bytes * n ≤ 281474976710656) (h63 : n ≤ 9223372036854775807) (W : World) :
    (Instr.makeSlice t (.int .i64 (n : Int)) (.int .i64 (n : Int))).run P W = .ok (.slice (some ⟨W.heap.size, 0, none⟩) n n) (W.alloc (.cells (List.replicate n z).toArray e)) := by
  have hb : (i.bytes : Int) * (n : Int) ≤ 281474976710656 := by
    have h : ((i.bytes * n : Nat) : Int) ≤ 281474976710656 := by omega
    rwa [Int.natCast_mul] at h
  have h := run_make (P := P) W t e i z ht hi hz .i64 .i64 (n : Int) (n : Int) (by omega) (Int.le_refl _) hb (by omega)
  simp only [Int.toNat_natCast, hs, Nat.mul_one, hzc] at h
  rw [h, ← toList_madeCells_one, Array.toArray_toList]
theorem made_cell (W : World) (n : Nat) (z : Value) (e : TypeId) {j : Nat} (hj : j < n) : (W.alloc (.cells (List.replicate n z).toArray e)).cell? ⟨W.heap.size, j, none⟩ = some z := by
  rcases Cells.new W e (List.replicate n z) with h | ⟨b, o, e1, h⟩
  · have := congrArg List.length h
    simp at this
    omega
  · cases e1
    have h1 := h j z (by rw [List.getElem?_replicate, if_pos hj])
    simpa using h1
theorem FRef.begin (w : World) (nq : Nat) : FRef ((w.alloc (.cells (List.replicate nq (.slice none 0 0)).toArray 68)).alloc (.cells (List.replicate nq (.int .i64 0)).toArray 3)) ((w.alloc (.cells (List.replicate nq (.slice none 0 0)).toArray 68)).alloc (.cells (List.replicate nq (.int .i64 0)).toArray 3)) w.heap.size (w.heap.size + 2) w.heap.size (w.heap.size + 1) nq fr.start.w fr.start.d fr.start.t (fun _ => none) (fun _ => 0) none 0 (fun j => blkOf (none : Option Addr) = some j) := by
  have nn : ∀ {k : Nat}, blkOf (none : Option Addr) ≠ some k := fun {k} h => by simp [blkOf] at h
  refine ⟨Below.refl _ _, fun _ _ => rfl, fun g hg => absurd hg nn, ⟨Nat.le_refl _, by omega, by omega, by omega, by omega, by simp⟩, ⟨nn, nn⟩, fun o => by simp [go_sem], fun o => by simp [go_sem], OwnF.nil _ _ _, fun g hg => absurd hg nn, fun j hj => ?_, fun j hj => ?_, fun j hj => OwnF.nil _ _ _, fun j hj g hg => absurd hg nn, fun i j _ _ _ k hk => absurd hk nn, fun j _ k hk => absurd hk nn⟩
  · have h1 := made_cell w nq (.slice none 0 0) 68 hj
    refine Eq.trans ?_ h1
    exact World.cell?_of_block (Below.heap_alloc _ _ _ (by simp))
  · have h1 := made_cell (w.alloc (.cells (List.replicate nq (.slice none 0 0)).toArray 68)) nq (.int .i64 0) 3 hj
    refine Eq.trans ?_ h1
    simp

set_option maxRecDepth 100000 in
set_option maxHeartbeats 400000 in
theorem ref_FairPlayed_size (n m c1 c2 : Nat) (A1 A2 : Option Addr) (w : World) (h : n = 0 ∨ 6 < n ∨ 300 < m) (hn : n ≤ 140737488351232) (hm : m ≤ 140737488351232) :
    Calls Try.prog 44 #[.slice A1 n c1, .slice A2 m c2] w (fr.Res [] 1 w) := by
  by_cases h1 : n = 0
  · have e1 : ((n : Int) == 0) = true := by simp; omega
    clear h h1
    go_enter Try.func44, Try.ntmps44
    go_wp2
    go_ret2
    exact fr.Res.no rfl (Below.refl _ _)
  · have e1 : ((n : Int) == 0) = false := by simp; omega
    by_cases h2 : 6 < n
    · have e2 : decide ((n : Int) > 6) = true := by simp; omega
      have e2' : decide (6 < (n : Int)) = true := by simp; omega
      clear h h1
      go_enter Try.func44, Try.ntmps44
      go_wp2
      go_ret2
      exact fr.Res.no rfl (Below.refl _ _)
    · have e2 : decide ((n : Int) > 6) = false := by simp; omega
      have e2' : decide (6 < (n : Int)) = false := by simp; omega
      have e3 : decide ((m : Int) > 300) = true := by simp; omega
      have e3' : decide (300 < (m : Int)) = true := by simp; omega
      clear h h1
      go_enter Try.func44, Try.ntmps44
      go_wp2
      go_ret2
      exact fr.Res.no rfl (Below.refl _ _)

set_option maxRecDepth 100000 in
set_option maxHeartbeats 40000000 in
theorem ref_FairPlayed_ok (qu : List Int) (A1 : Option Addr) (c1 : Nat) (l : List Feed) (A2 : Option Addr) (c2 : Nat) (w : World) (hqr : SlRep Rep.int w (· < w.heap.size) qu A1 c1) (hlr : SlRep Feed.rep w (· < w.heap.size) l A2 c2) (h1 : 1 ≤ qu.length) (h2 : qu.length ≤ 6) (h3 : l.length ≤ 300) :
    Calls Try.prog 44 #[.slice A1 qu.length c1, .slice A2 l.length c2] w (fr.Res (fr.out qu l) (fr.code qu l) w) := by
  have HQ := Lib.hid hqr
  have HL := Lib.hid hlr
  have hq0 : ((qu.length : Int) == 0) = false := by rw [beq_eq_false_iff_ne]; omega
  have hm1 := make_row (P := Try.prog) (i := Try.t68) (z := .slice none 0 0) Try.underlying128 (by kernel_rfl) (by kernel_rfl) rfl rfl qu.length (by show 24 * _ ≤ _; omega) (by omega)
  have hm2 := make_row (P := Try.prog) (i := Try.t3) (z := .int .i64 0) Try.underlying68 (by kernel_rfl) (by kernel_rfl) rfl rfl qu.length (by show 8 * _ ≤ _; omega) (by omega)
  clear hqr hlr
  go_enter Try.func44, Try.ntmps44
  go_wp2
  go_loopw [33] (fun i wr => ∃ k : Nat, k ≤ qu.length ∧ i = .int .i64 k ∧ Hid (∀ j, j < k → fr.qok (qu.getD j 0) = true) ∧ w = wr) (fun i _ => qu.length - (intOf i).toNat)
  case atStart => exact ⟨0, by omega, rfl, Lib.hid (fun j hj => by omega), rfl⟩
  case round =>
    obtain ⟨k, hk, rfl, HA, rfl⟩ := hrel
    by_cases hlt : k < qu.length
    · obtain ⟨b, o, rfl, hb, hc1⟩ := int_at HQ.out hlt
      have HI := Lib.hid (fr.qok_iff (qu.getD k 0))
      have HN : Hid (fr.qok (qu.getD k 0) = true → ∀ j, j < k + 1 → fr.qok (qu.getD j 0) = true) := Lib.hid (fun h j hj => by
        rcases Nat.lt_or_ge j k with h' | h'
        · exact HA.out j h'
        · obtain rfl : j = k := by omega
          exact h)
      have HF : Hid (fr.qok (qu.getD k 0) = false → qu.all fr.qok = false) := Lib.hid (fun h => fr.all_no hlt h)
      clear HA
      generalize qu.getD k 0 = r at *
      by_cases hr : 1 ≤ r ∧ r ≤ 1500
      · have HR := Lib.hid hr
        have e1 : decide (r < 1) = false := decide_eq_false (by omega)
        have e2 : decide (r > 1500) = false := decide_eq_false (by omega)
        clear hr
        go_wp2
        go_roundw
        case rel => exact ⟨k + 1, by omega, by go_num, Lib.hid (HN.out (HI.out.2 HR.out)), by first | rfl | trivial⟩
        case measure => simp [intOf]; omega
      · have HR2 : Hid (fr.qok r = false) := Lib.hid (by cases e : fr.qok r with | false => rfl | true => exact absurd (HI.out.1 e) hr)
        have HX : Hid (fr.out qu l = [] ∧ fr.code qu l = 2) := Lib.hid (by
          unfold fr.out fr.code
          rw [if_neg (by omega), if_pos (HF.out HR2.out), if_neg (by omega), if_pos (HF.out HR2.out)]
          exact ⟨rfl, rfl⟩)
        by_cases e0 : r < 1
        · have e1 : decide (r < 1) = true := decide_eq_true e0
          clear hr
          go_wp2
          go_ret2
          rw [HX.out.1, HX.out.2]
          exact fr.Res.no rfl (Below.refl _ _)
        · have e1 : decide (r < 1) = false := decide_eq_false e0
          have e2 : decide (r > 1500) = true := decide_eq_true (by omega)
          have e2' : decide (1500 < r) = true := decide_eq_true (by omega)
          clear hr
          go_wp2
          go_ret2
          rw [HX.out.1, HX.out.2]
          exact fr.Res.no rfl (Below.refl _ _)
    · obtain rfl : k = qu.length := by omega
      have HQT : Hid (qu.all fr.qok = true) := Lib.hid (fr.all_at HA.out)
      clear HA
      have HX : Hid (fr.out qu l = fr.plays qu.length (fr.qs qu) fr.start l ∧ fr.code qu l = 0) := Lib.hid (by
          unfold fr.out fr.code
          rw [if_neg (by omega), if_neg (by rw [HQT.out]; simp), if_neg (by omega), if_neg (by rw [HQT.out]; simp)]
          exact ⟨rfl, rfl⟩)
      -- the main loop
      go_wp2
      go_loopw [10, 11, 12, 52] (fun rg hs out i w5 => ∃ (k : Nat) (s : fr.St) (os : List Served) (Ao : Option Addr) (co : Nat) (At : Option Addr) (ct : Nat), rg = .slice At s.t.length ct ∧ hs = .int .i64 (fr.has s) ∧ out = .slice Ao k co ∧ i = .int .i64 k ∧ k ≤ l.length ∧ Hid (fr.RAt w (w.heap.size + 2) w.heap.size (w.heap.size + 1) qu l w5 k s os Ao co At ct)) (fun _ _ _ i _ => l.length - (intOf i).toNat)
      case atStart => exact ⟨0, fr.start, [], none, 0, none, 0, rfl, rfl, rfl, rfl, by omega, Lib.hid ⟨rfl, rfl, fr.inv_start _, ⟨_, _, FRef.begin w qu.length⟩, Own.nil _ _ _ _, (by repeat (first | (with_reducible exact Below.refl _ _) | (with_reducible assumption) | (with_reducible refine bset ?_ ?_ _) | (with_reducible refine balloc ?_ _) | (with_reducible refine Below.drew ?_) | (with_reducible refine bdrewN ?_ _) | (with_reducible refine bnext ?_ (by with_reducible assumption)) | exact Nat.le_refl _ | (simp; done) | omega | (simp; omega)))⟩⟩
      case round =>
        obtain ⟨k, s, os, Ao, co, At, ct, rfl, rfl, rfl, rfl, hk, HT⟩ := hrel
        rename World => w5
        by_cases hlt : k < l.length
        · obtain ⟨b, o, rfl, hb, hc1, hc2⟩ := Feed.cells_at ⟨0, 0⟩ (HL.out.below HT.out.below) hlt
          have hbw : b < w5.heap.size := Nat.lt_of_lt_of_le hb HT.out.below.size
          have hws : w.heap.size ≤ w5.heap.size := HT.out.below.size
          have HX0 : Hid (∃ x, x = l.getD k ⟨0, 0⟩) := Lib.hid ⟨_, rfl⟩
          obtain ⟨x, hx⟩ := HX0.out
          rw [← hx] at hc1 hc2
          have HXX := Lib.hid hx
          clear hx HX0
          obtain ⟨fl, sz⟩ := x
          dsimp only at hc1 hc2
          have HNX := Lib.hid (fun s' y A3 c3 w6 w7 At' w8 ct' AA cc hs h1 h2 h3 h4 => HT.out.next (A := AA) (c := cc) (A3 := A3) (c3 := c3) (s' := s') (y := y) (w6 := w6) (w7 := w7) (w8 := w8) (At' := At') (ct' := ct') HQT.out hlt HXX.out.symm hs h1 h2 h3 h4)
          obtain ⟨AR, cR, hrf⟩ := HT.out.ref
          obtain ⟨wa, hwa⟩ : ∃ wa, wa = w5.alloc (.cells #[.int .i64 fl, .int .i64 sz] 124) := ⟨_, rfl⟩
          have HRW : Hid (FRef w5 wa w.heap.size (w.heap.size + 2) w.heap.size (w.heap.size + 1) qu.length s.w s.d s.t AR cR At ct (fun j => blkOf Ao = some j)) := Lib.hid (by rw [hwa]; exact hrf.next (by repeat (first | (with_reducible exact Below.refl _ _) | (with_reducible assumption) | (with_reducible refine bset ?_ ?_ _) | (with_reducible refine balloc ?_ _) | (with_reducible refine Below.drew ?_) | (with_reducible refine bdrewN ?_ _) | (with_reducible refine bnext ?_ (by with_reducible assumption)) | exact Nat.le_refl _ | (simp; done) | omega | (simp; omega))))
          have z0 : wa.cell? ⟨w5.heap.size, 0, none⟩ = some (.int .i64 fl) := by rw [hwa]; simp [go_sem]
          have z1 : wa.cell? ⟨w5.heap.size, 1, none⟩ = some (.int .i64 sz) := by rw [hwa]; simp [go_sem]
          have hza : w5.heap.size < wa.heap.size := by rw [hwa]; simp
          have HWA := Lib.hid hwa
          have HAL := Lib.hid (fun (j k : Nat) (hj : j < qu.length) (hk : blkOf (AR j) = some k) => ((hrf.own j hj).lt k hk).2)
          clear hwa hrf
          by_cases hz1 : sz < 0
          · have hd2 : decide (sz < 0) = true := by simp [hz1]
            go_upto_region 33 with fail
            rw [← HWA.out]
            as_aux_lemma =>
              have HSP : Hid (fr.step qu.length (fr.qs qu) s ⟨fl, sz⟩ = (s, ⟨2, 0, 0⟩)) := Lib.hid (fr.step_neg (nq := qu.length) (q := fr.qs qu) (s := s) (x := ⟨fl, sz⟩) hz1)
              have HR6 := Lib.hid (HRW.out)
              have HO6 := Lib.hid (HT.out.own6 HR6.out.kept)
              have hs6 := Nat.le_trans hws HR6.out.bel.size
              go_wp2_with (first
                | (at_builtin; refine wp_app _ rfl _ _ _ rfl fr.elemS w.heap.size Ao k co _ rfl (HO6.out.alloc _) _ 1 1 [.int .i64 2, .int .i64 0, .int .i64 0] rfl rfl (Cells.newAt _ _ _ (by simp)) (by simp [Value.oneCell']) (by omega) (by unfold maxLen; omega) (by simp; omega) ?_; intro A3 c3 w8 ho8 hg8; have HAT8 := Lib.hid (HNX.out _ _ A3 c3 _ _ _ w8 _ _ _ HSP.out HR6.out ((Below.refl _ _).alloc (Nat.le_refl _) _) hg8 ho8); clear ho8 hg8)
                | fail)
              go_roundw
              case rel => exact ⟨k + 1, _, _, A3, c3, _, _, rfl, rfl, rfl, by go_num, by omega, HAT8⟩
              case measure => simp [intOf]; omega
          · have hd2 : decide (sz < 0) = false := by simp; omega
            by_cases hz0 : 0 < sz
            · have hd1 : decide (sz > 0) = true := by simp [hz0]
              have hd1' : decide (0 < sz) = true := by simp [hz0]
              by_cases hf0 : fl < 0
              · have hd3 : decide (fl < 0) = true := by simp [hf0]
                go_upto_region 33 with fail
                rw [← HWA.out]
                as_aux_lemma =>
                  have HSP : Hid (fr.step qu.length (fr.qs qu) s ⟨fl, sz⟩ = (s, ⟨2, 0, 0⟩)) := Lib.hid (by rw [fr.step_come (nq := qu.length) (q := fr.qs qu) (s := s) (x := ⟨fl, sz⟩) hz0]; unfold fr.come; rw [if_pos (.inl hf0)])
                  have HR6 := Lib.hid (HRW.out)
                  have HO6 := Lib.hid (HT.out.own6 HR6.out.kept)
                  have hs6 := Nat.le_trans hws HR6.out.bel.size
                  go_wp2_with (first
                    | (at_builtin; refine wp_app _ rfl _ _ _ rfl fr.elemS w.heap.size Ao k co _ rfl (HO6.out.alloc _) _ 1 1 [.int .i64 2, .int .i64 0, .int .i64 0] rfl rfl (Cells.newAt _ _ _ (by simp)) (by simp [Value.oneCell']) (by omega) (by unfold maxLen; omega) (by simp; omega) ?_; intro A3 c3 w8 ho8 hg8; have HAT8 := Lib.hid (HNX.out _ _ A3 c3 _ _ _ w8 _ _ _ HSP.out HR6.out ((Below.refl _ _).alloc (Nat.le_refl _) _) hg8 ho8); clear ho8 hg8)
                    | fail)
                  go_roundw
                  case rel => exact ⟨k + 1, _, _, A3, c3, _, _, rfl, rfl, rfl, by go_num, by omega, HAT8⟩
                  case measure => simp [intOf]; omega
              · have hd3 : decide (fl < 0) = false := by simp; omega
                by_cases hf1 : (qu.length : Int) ≤ fl
                · have hd4 : decide (fl ≥ (qu.length : Int)) = true := by simp [hf1]
                  have hd4' : decide ((qu.length : Int) ≤ fl) = true := by simp [hf1]
                  go_upto_region 33 with fail
                  rw [← HWA.out]
                  as_aux_lemma =>
                    have HSP : Hid (fr.step qu.length (fr.qs qu) s ⟨fl, sz⟩ = (s, ⟨2, 0, 0⟩)) := Lib.hid (by rw [fr.step_come (nq := qu.length) (q := fr.qs qu) (s := s) (x := ⟨fl, sz⟩) hz0]; unfold fr.come; rw [if_pos (.inr (.inl hf1))])
                    have HR6 := Lib.hid (HRW.out)
                    have HO6 := Lib.hid (HT.out.own6 HR6.out.kept)
                    have hs6 := Nat.le_trans hws HR6.out.bel.size
                    go_wp2_with (first
                      | (at_builtin; refine wp_app _ rfl _ _ _ rfl fr.elemS w.heap.size Ao k co _ rfl (HO6.out.alloc _) _ 1 1 [.int .i64 2, .int .i64 0, .int .i64 0] rfl rfl (Cells.newAt _ _ _ (by simp)) (by simp [Value.oneCell']) (by omega) (by unfold maxLen; omega) (by simp; omega) ?_; intro A3 c3 w8 ho8 hg8; have HAT8 := Lib.hid (HNX.out _ _ A3 c3 _ _ _ w8 _ _ _ HSP.out HR6.out ((Below.refl _ _).alloc (Nat.le_refl _) _) hg8 ho8); clear ho8 hg8)
                      | fail)
                    go_roundw
                    case rel => exact ⟨k + 1, _, _, A3, c3, _, _, rfl, rfl, rfl, by go_num, by omega, HAT8⟩
                    case measure => simp [intOf]; omega
                · have hd4 : decide (fl ≥ (qu.length : Int)) = false := by simp; omega
                  have hd4' : decide ((qu.length : Int) ≤ fl) = false := by simp; omega
                  by_cases hf2 : 1500 < sz
                  · have hd5 : decide (sz > 1500) = true := by simp [hf2]
                    have hd5' : decide (1500 < sz) = true := by simp [hf2]
                    go_upto_region 33 with fail
                    rw [← HWA.out]
                    as_aux_lemma =>
                      have HSP : Hid (fr.step qu.length (fr.qs qu) s ⟨fl, sz⟩ = (s, ⟨2, 0, 0⟩)) := Lib.hid (by rw [fr.step_come (nq := qu.length) (q := fr.qs qu) (s := s) (x := ⟨fl, sz⟩) hz0]; unfold fr.come; rw [if_pos (.inr (.inr hf2))])
                      have HR6 := Lib.hid (HRW.out)
                      have HO6 := Lib.hid (HT.out.own6 HR6.out.kept)
                      have hs6 := Nat.le_trans hws HR6.out.bel.size
                      go_wp2_with (first
                        | (at_builtin; refine wp_app _ rfl _ _ _ rfl fr.elemS w.heap.size Ao k co _ rfl (HO6.out.alloc _) _ 1 1 [.int .i64 2, .int .i64 0, .int .i64 0] rfl rfl (Cells.newAt _ _ _ (by simp)) (by simp [Value.oneCell']) (by omega) (by unfold maxLen; omega) (by simp; omega) ?_; intro A3 c3 w8 ho8 hg8; have HAT8 := Lib.hid (HNX.out _ _ A3 c3 _ _ _ w8 _ _ _ HSP.out HR6.out ((Below.refl _ _).alloc (Nat.le_refl _) _) hg8 ho8); clear ho8 hg8)
                        | fail)
                      go_roundw
                      case rel => exact ⟨k + 1, _, _, A3, c3, _, _, rfl, rfl, rfl, by go_num, by omega, HAT8⟩
                      case measure => simp [intOf]; omega
                  · have hd5 : decide (sz > 1500) = false := by simp; omega
                    have hd5' : decide (1500 < sz) = false := by simp; omega
                    obtain ⟨i, hi0⟩ : ∃ i : Nat, fl = (i : Int) := ⟨fl.toNat, by omega⟩
                    subst hi0
                    have hi : i < qu.length := by omega
                    have m1 := HRW.out.ws i hi
                    obtain ⟨L, hL⟩ : ∃ L, L = (s.w i).length := ⟨_, rfl⟩
                    rw [← hL] at m1
                    have hsh := HT.out.inv.short i
                    rw [← hL] at hsh
                    have HLL : Hid ((s.w i).length = L) := Lib.hid hL.symm
                    clear hL
                    by_cases hl40 : 40 ≤ L
                    · have hd6 : decide ((L : Int) ≥ 40) = true := by simp; omega
                      have hd6' : decide (40 ≤ (L : Int)) = true := by simp; omega
                      go_upto_region 33 with fail
                      rw [← HWA.out]
                      have HSP : Hid (fr.step qu.length (fr.qs qu) s ⟨(i : Int), sz⟩ = (s, ⟨9, 0, 0⟩)) := Lib.hid (by rw [fr.step_come (nq := qu.length) (q := fr.qs qu) (s := s) (x := ⟨(i : Int), sz⟩) hz0]; unfold fr.come; rw [if_neg (by dsimp only; omega), if_pos (by rw [Int.toNat_natCast, HLL.out]; omega)])
                      have HR6 := Lib.hid (HRW.out)
                      have HO6 := Lib.hid (HT.out.own6 HR6.out.kept)
                      have hs6 := Nat.le_trans hws HR6.out.bel.size
                      go_wp2_with (first
                        | (at_builtin; refine wp_app _ rfl _ _ _ rfl fr.elemS w.heap.size Ao k co _ rfl (HO6.out.alloc _) _ 1 1 [.int .i64 9, .int .i64 0, .int .i64 0] rfl rfl (Cells.newAt _ _ _ (by simp)) (by simp [Value.oneCell']) (by omega) (by unfold maxLen; omega) (by simp; omega) ?_; intro A3 c3 w8 ho8 hg8; have HAT8 := Lib.hid (HNX.out _ _ A3 c3 _ _ _ w8 _ _ _ HSP.out HR6.out ((Below.refl _ _).alloc (Nat.le_refl _) _) hg8 ho8); clear ho8 hg8)
                        | fail)
                      go_roundw
                      case rel => exact ⟨k + 1, _, _, A3, c3, _, _, rfl, rfl, rfl, by go_num, by omega, HAT8⟩
                      case measure => simp [intOf]; omega
                    · have hd6 : decide ((L : Int) ≥ 40) = false := by simp; omega
                      have hd6' : decide (40 ≤ (L : Int)) = false := by simp; omega
                      go_upto_region 33 with fail
                      rw [← HWA.out]
                      obtain ⟨b0, hb0⟩ : ∃ b0 : Bool, ((L : Int) == 0) = b0 := ⟨_, rfl⟩
                      have HB0 := Lib.hid hb0
                      obtain ⟨T', hT'⟩ : ∃ T', T' = (if (s.w i).length = 0 then s.t ++ [i] else s.t) := ⟨_, rfl⟩
                      have HTQ := Lib.hid hT'
                      clear hT'
                      have htl : s.t.length ≤ 6 := by
                        have h1 := nodup_short qu.length s.t HT.out.inv.nodup (fun y hy => (HT.out.inv.waits y hy).1)
                        omega
                      cases b0 with
                      | true =>
                        have hL0 : L = 0 := by have := HB0.out; rw [beq_iff_eq] at this; omega
                        have HTE : Hid (T' = s.t ++ [i]) := Lib.hid (by rw [HTQ.out, if_pos (by rw [HLL.out]; exact hL0)])
                        have HOT : Hid (∀ o, OwnF (wa.alloc o) (w.heap.size + 2) 3 At s.t.length ct (s.t.map fun i : Nat => (i : Int))) := Lib.hid fun o => HRW.out.turn.next (by repeat (first | (with_reducible exact Below.refl _ _) | (with_reducible assumption) | (with_reducible refine bset ?_ ?_ _) | (with_reducible refine balloc ?_ _) | (with_reducible refine Below.drew ?_) | (with_reducible refine bdrewN ?_ _) | (with_reducible refine bnext ?_ (by with_reducible assumption)) | exact Nat.le_refl _ | (simp; done) | omega | (simp; omega)))
                        have HBT : Hid (∀ o, w.heap.size + 2 ≤ (wa.alloc o).heap.size) := Lib.hid (fun o => by have := HRW.out.lo.2.2.2.2.2; rw [World.size_alloc]; omega)
                        have HTK : Hid (∀ k, blkOf At = some k → k < w5.heap.size) := Lib.hid (fun k hk => by obtain ⟨A0, c0, h0⟩ := HT.out.ref; exact (h0.turn.lt k hk).2)
                        clear hL0
                        go_upto_region 42 with (first
                          | (at_builtin; refine wp_appF _ rfl _ _ _ rfl fr.elemI (w.heap.size + 2) At s.t.length ct (s.t.map fun i : Nat => (i : Int)) rfl (HOT.out _) (some ⟨wa.heap.size, 0, none⟩) 1 (i : Int) rfl (Cells.newAt wa _ [.int .i64 (i : Int)] rfl) (by omega) (by unfold maxLen; omega) (HBT.out _) ?_; intro A6 c6 w6 h6 hg6; have HO6 := Lib.hid h6; have HG6 := Lib.hid hg6; clear h6 hg6)
                          | fail)
                        have hb7 : Below wa.heap.size wa (wa.alloc (.cells #[.int .i64 (i : Int)] 3)) := (by repeat (first | (with_reducible exact Below.refl _ _) | (with_reducible assumption) | (with_reducible refine bset ?_ ?_ _) | (with_reducible refine balloc ?_ _) | (with_reducible refine Below.drew ?_) | (with_reducible refine bdrewN ?_ _) | (with_reducible refine bnext ?_ (by with_reducible assumption)) | exact Nat.le_refl _ | (simp; done) | omega | (simp; omega)))
                        have h9 := (HRW.out.next hb7).turnOn (T' := s.t ++ [i]) HG6.out (by have h0 := HO6.out; rw [List.map_append]; exact h0)
                        rw [← HTE.out] at h9
                        have hz : w6.heap[w5.heap.size]? = wa.heap[w5.heap.size]? := (HG6.out.grown.block _ (Nat.lt_of_lt_of_le hza hb7.size) (fun e => by have := HTK.out _ e.symm; omega)).trans (hb7.block _ hza)
                        have HNN := Lib.hid h9.2
                        have HRX0 := Lib.hid h9.1
                        have z0' := (World.cell?_of_block (a := ⟨w5.heap.size, 0, none⟩) hz).trans z0
                        have z1' := (World.cell?_of_block (a := ⟨w5.heap.size, 1, none⟩) hz).trans z1
                        have hzx := Nat.lt_of_lt_of_le hza (Nat.le_trans hb7.size HG6.out.grown.size)
                        clear h9 hz hb7 z0 z1 HO6 HG6
                        have hms := HRX0.out.ws i hi
                        rw [HLL.out] at hms
                        have HBX : Hid (∀ m o, Below w6.heap.size w6 ((w6.drewN m).alloc o)) := Lib.hid fun m o => balloc (bdrewN (bself _) _) _
                        have HOW : Hid (∀ m o, OwnF ((w6.drewN m).alloc o) (w.heap.size + 2) 3 (AR i) L (cR i) (s.w i)) := Lib.hid fun m o => by have h0 := (HRX0.out.own i hi).next (HBX.out m o); rw [HLL.out] at h0; exact h0
                        have HNE : Hid (∀ m ty, Cells ((w6.drewN m).alloc (.cells #[.int .i64 sz] ty)) (some ⟨w6.heap.size, 0, none⟩) [.int .i64 sz]) := Lib.hid (fun m ty => Cells.newAt (w6.drewN m) ty [.int .i64 sz] rfl)
                        have HWX : Hid (w.heap.size < w6.heap.size) := Lib.hid (by have := HRX0.out.lo.2.2.2.2.2; omega)
                        have HBY : Hid (∀ m o, w.heap.size + 2 ≤ ((w6.drewN m).alloc o).heap.size) := Lib.hid (fun m o => Nat.le_trans HRX0.out.lo.2.2.2.2.2 (HBX.out m o).size)
                        have HAK : Hid (∀ k, blkOf (AR i) = some k → k ≠ w.heap.size) := Lib.hid (fun k hk e => (HRX0.out.owned hi).2 (e ▸ hk))
                        have HKG : Hid (∀ m o A' w', Grew ((w6.drewN m).alloc o) w' (AR i) A' → w'.heap[w.heap.size]? = w6.heap[w.heap.size]? ∧ w'.heap[w5.heap.size]? = w6.heap[w5.heap.size]?) := Lib.hid (fun m o A' w' hg => ⟨(hg.grown.block _ (Nat.lt_of_lt_of_le HWX.out (HBX.out m o).size) (fun e => HAK.out _ e.symm rfl)).trans ((HBX.out m o).block _ HWX.out), (hg.grown.block _ (Nat.lt_of_lt_of_le hzx (HBX.out m o).size) (fun e => by have := HAL.out _ _ hi e.symm; omega)).trans ((HBX.out m o).block _ hzx)⟩)
                        have i0 : ∀ m o, ((w6.drewN m).alloc o).cell? ⟨w.heap.size, i, none⟩ = some (.slice (AR i) L (cR i)) := fun m o => ((HBX.out m o).cell (p := ⟨w.heap.size, i, none⟩) HWX.out).trans hms
                        have i1 : ∀ m o, ((w6.drewN m).alloc o).cell? ⟨w5.heap.size, 0, none⟩ = some (.int .i64 (i : Int)) := fun m o => ((HBX.out m o).cell (p := ⟨w5.heap.size, 0, none⟩) hzx).trans z0'
                        have i2 : ∀ m o, ((w6.drewN m).alloc o).cell? ⟨w5.heap.size, 1, none⟩ = some (.int .i64 sz) := fun m o => ((HBX.out m o).cell (p := ⟨w5.heap.size, 1, none⟩) hzx).trans z1'
                        have fwE := HRX0.out.fw
                        have hwx := HWX.out
                        have hwx2 : w.heap.size ≠ w6.heap.size := by omega
                        have hzx2 : w5.heap.size ≠ w6.heap.size := by omega
                        have HHS : Hid (fr.has ⟨fr.upd s.w i (s.w i ++ [sz]), s.d, if (s.w i).length = 0 then s.t ++ [i] else s.t, s.f⟩ = fr.has s) := Lib.hid (by
                          unfold fr.has
                          simp only
                          cases hf : s.f with
                          | false => rfl
                          | true =>
                            have h1 := HT.out.inv.fed hf
                            cases hst : s.t with
                            | nil => exact absurd hst h1
                            | cons a r => by_cases c : s.w i = [] <;> simp [c])
                        clear hb0 m1
                        go_cut [10] (fun s10 wx => s10 = .slice A6 (s.t.length + 1) c6 ∧ ∃ AA cc, Hid (FRef w5 wx w.heap.size (w.heap.size + 2) w.heap.size (w.heap.size + 1) qu.length (fr.upd s.w i (s.w i ++ [sz])) s.d (if (s.w i).length = 0 then s.t ++ [i] else s.t) AA cc A6 c6 (fun j => blkOf Ao = some j)))
                        case first =>
                          refine wp_region_tail [13] (fun wx => wx.cell? ⟨w5.heap.size, 0, none⟩ = some (.int .i64 (i : Int)) ∧ wx.cell? ⟨w.heap.size, i, none⟩ = some (.slice (AR i) L (cR i)) ∧ wx.cell? ⟨w5.heap.size, 1, none⟩ = some (.int .i64 sz)) (by kernel_rfl) (⟨z0', hms, z1'⟩) ?_
                          intro hHeld
                          refine wpAnyT_pure (i := 0) (v := ?_) rfl (by kernel_rfl) (by kernel_rfl) (by kernel_rfl) (fun _ _ _ h => h) (.inl ⟨by rfl, ?_⟩) (fun _ => hHeld) ?_ (by decide)
                          rotate_left
                          · intro w9; go_simp; try with_reducible rfl
                          simp only [Act.put, List.setIfInBounds_toArray, List.set_cons_zero, List.set_cons_succ]
                          refine wpAnyT_pure (i := 1) (v := ?_) rfl (by kernel_rfl) (by kernel_rfl) (by kernel_rfl) (fun _ _ _ h => h) (.inl ⟨by rfl, ?_⟩) (fun _ => hHeld) ?_ (by decide)
                          rotate_left
                          · intro w9; go_simp; try with_reducible rfl
                          simp only [Act.put, List.setIfInBounds_toArray, List.set_cons_zero, List.set_cons_succ]
                          refine wpAnyT_take (i := 2) [12, 13] (v := ?_) rfl (by kernel_rfl) (by kernel_rfl) (by kernel_rfl) (by kernel_rfl) (fun _ _ _ h => h) (.inl ⟨by rfl, ?_⟩) hHeld ?_
                          rotate_left
                          · intro w9 hS9; (try dsimp only at hS9); go_simp; try with_reducible rfl
                          simp only [Act.put, List.setIfInBounds_toArray, List.set_cons_zero, List.set_cons_succ]
                          refine wpAnyT_pure (i := 3) (v := ?_) rfl (by kernel_rfl) (by kernel_rfl) (by kernel_rfl) (fun _ _ _ h => h) (.inl ⟨by rfl, ?_⟩) (fun _ => hHeld) ?_ (by decide)
                          rotate_left
                          · intro w9; go_simp; try with_reducible rfl
                          simp only [Act.put, List.setIfInBounds_toArray, List.set_cons_zero, List.set_cons_succ]
                          refine wpAnyT_pure (i := 4) (v := ?_) rfl (by kernel_rfl) (by kernel_rfl) (by kernel_rfl) (fun _ _ _ h => h) (.inl ⟨by rfl, ?_⟩) (fun _ => hHeld) ?_ (by decide)
                          rotate_left
                          · intro w9; go_simp; try with_reducible rfl
                          simp only [Act.put, List.setIfInBounds_toArray, List.set_cons_zero, List.set_cons_succ]
                          refine wpAnyT_take (i := 5) [6, 7, 11, 13] (v := ?_) rfl (by kernel_rfl) (by kernel_rfl) (by kernel_rfl) (by kernel_rfl) (fun _ _ _ h => h) (.inl ⟨by rfl, ?_⟩) hHeld ?_
                          rotate_left
                          · intro w9 hS9; (try dsimp only at hS9); go_simp; try with_reducible rfl
                          simp only [Act.put, List.setIfInBounds_toArray, List.set_cons_zero, List.set_cons_succ]
                          refine wpAnyT_pure (i := 6) (v := ?_) rfl (by kernel_rfl) (by kernel_rfl) (by kernel_rfl) (fun _ _ _ h => h) (.inl ⟨by rfl, ?_⟩) (fun _ => hHeld) ?_ (by decide)
                          rotate_left
                          · intro w9; go_simp; try with_reducible rfl
                          simp only [Act.put, List.setIfInBounds_toArray, List.set_cons_zero, List.set_cons_succ]
                          refine wpAnyT_take (i := 7) [11, 13] (v := ?_) rfl (by kernel_rfl) (by kernel_rfl) (by kernel_rfl) (by kernel_rfl) (fun _ _ _ h => h) (.inl ⟨by rfl, ?_⟩) hHeld ?_
                          rotate_left
                          · intro w9 hS9; (try dsimp only at hS9); go_simp; try with_reducible rfl
                          simp only [Act.put, List.setIfInBounds_toArray, List.set_cons_zero, List.set_cons_succ]
                          refine wpAnyT_pure (i := 8) (v := ?_) rfl (by kernel_rfl) (by kernel_rfl) (by kernel_rfl) (fun _ _ _ h => h) (.inl ⟨by rfl, ?_⟩) (fun _ => hHeld) ?_ (by decide)
                          rotate_left
                          · intro w9; go_simp; try with_reducible rfl
                          simp only [Act.put, List.setIfInBounds_toArray, List.set_cons_zero, List.set_cons_succ]
                          refine wpAnyT_take (i := 9) [10, 11, 13] (v := ?_) rfl (by kernel_rfl) (by kernel_rfl) (by kernel_rfl) (by kernel_rfl) (fun _ _ _ h => h) (.inl ⟨by rfl, ?_⟩) hHeld ?_
                          rotate_left
                          · intro w9 hS9; (try dsimp only at hS9); go_simp; try with_reducible rfl
                          simp only [Act.put, List.setIfInBounds_toArray, List.set_cons_zero, List.set_cons_succ]
                          refine wpAnyT_next (i := 10) (by kernel_rfl) rfl ?_
                          intro K hK
                          go_simp
                          refine hK.out _ _ (fun _ => ⟨i1 _ _, i0 _ _, i2 _ _⟩) ?_
                          clear hK K hHeld
                          refine wpAnyT_next (i := 11) (by kernel_rfl) rfl ?_
                          intro K hK
                          refine step_appF _ (by rfl) _ _ _ (by rfl) fr.elemI (w.heap.size + 2) (AR i) L (cR i) (s.w i) (by rfl) (HOW.out _ _) (some ⟨w6.heap.size, 0, none⟩) 1 sz (by rfl) (HNE.out _ _) (by omega) (by unfold maxLen; omega) (HBY.out _ _) ?_
                          intro A7 c7 w7 h7 hg7
                          have hz7 := (HKG.out _ _ _ _ hg7).1
                          have hz8 := (HKG.out _ _ _ _ hg7).2
                          have b2 := (World.cell?_of_block (a := ⟨w5.heap.size, 0, none⟩) hz8).trans z0'
                          have b3 := (World.cell?_of_block (a := ⟨w5.heap.size, 1, none⟩) hz8).trans z1'
                          have b1 := (World.cell?_of_block (a := ⟨w.heap.size, i, none⟩) hz7).trans hms
                          have bf := fun o => (World.frozen?_of_block (a := ⟨w.heap.size, o, none⟩) hz7).trans (fwE o)
                          have H7A := Lib.hid h7
                          have H7G := Lib.hid hg7
                          clear h7 hg7 hz7 hz8
                          refine hK.out _ _ (fun _ => ⟨b2, b1, b3⟩) ?_
                          clear hK K
                          try simp only [Act.put, List.setIfInBounds_toArray, List.set_cons_zero, List.set_cons_succ]
                          refine wpAnyT_pure (i := 12) (v := ?_) rfl (by kernel_rfl) (by kernel_rfl) (by kernel_rfl) (fun _ _ _ h => h) (.inl ⟨by rfl, ?_⟩) (fun _ => ⟨b2, b1, b3⟩) ?_ (by decide)
                          rotate_left
                          · intro w9; go_simp; try with_reducible rfl
                          simp only [Act.put, List.setIfInBounds_toArray, List.set_cons_zero, List.set_cons_succ]
                          refine wpAnyT_next (i := 13) (by kernel_rfl) rfl ?_
                          intro K hK
                          go_simp
                          refine hK.out _ _ (fun h => absurd ((by kernel_rfl : false = _).trans h) Bool.false_ne_true) ?_
                          clear hK K
                          refine wpAnyT_done (by kernel_rfl) ?_ _
                          go_wp2_with fail
                          go_meet
                          exact ⟨rfl, _, _, Lib.hid (((HRX0.out.next (HBX.out _ _)).waits (i := i) (A' := A7) (n' := L + 1) (c' := c7) (W' := s.w i ++ [sz]) hi H7G.out H7A.out).as (W' := fr.upd s.w i (s.w i ++ [sz])) (d' := s.d) (T' := if (s.w i).length = 0 then s.t ++ [i] else s.t) rfl rfl HTQ.out.symm)⟩
                        case rest =>
                          obtain ⟨rfl, AA, cc, HRX⟩ := hcut
                          clear i0 i1 i2 hms z0' z1' fwE hwx hwx2 hzx2
                          have HSP : Hid (fr.step qu.length (fr.qs qu) s ⟨(i : Int), sz⟩ = (⟨fr.upd s.w i (s.w i ++ [sz]), s.d, if (s.w i).length = 0 then s.t ++ [i] else s.t, s.f⟩, ⟨0, 0, 0⟩)) := Lib.hid (by rw [fr.step_come (nq := qu.length) (q := fr.qs qu) (s := s) (x := ⟨(i : Int), sz⟩) hz0]; unfold fr.come; rw [if_neg (by dsimp only; omega), if_neg (by rw [Int.toNat_natCast, HLL.out]; omega), Int.toNat_natCast])
                          have HR6 := Lib.hid (HRX.out)
                          have HO8 := Lib.hid (HT.out.own6 HR6.out.kept)
                          have hs6 := Nat.le_trans hws HR6.out.bel.size
                          go_wp2_with (first
                            | (at_builtin; refine wp_app _ rfl _ _ _ rfl fr.elemS w.heap.size Ao k co _ rfl (HO8.out.alloc _) _ 1 1 [.int .i64 0, .int .i64 0, .int .i64 0] rfl rfl (Cells.newAt _ _ _ (by simp)) (by simp [Value.oneCell']) (by omega) (by unfold maxLen; omega) (by simp; omega) ?_; intro A3 c3 w8 ho8 hg8; have HAT8 := Lib.hid (HNX.out _ _ A3 c3 _ _ _ w8 _ _ _ HSP.out HR6.out ((Below.refl _ _).alloc (Nat.le_refl _) _) hg8 ho8); clear ho8 hg8)
                            | fail)
                          go_roundw
                          case rel => exact ⟨k + 1, _, _, A3, c3, _, _, by rw [HNN.out, HTQ.out], by rw [HHS.out], rfl, by go_num, by omega, HAT8⟩
                          case measure => simp [intOf]; omega
                      | false =>
                        have hL0 : ¬ L = 0 := by have := HB0.out; rw [beq_eq_false_iff_ne] at this; omega
                        have HTE : Hid (T' = s.t) := Lib.hid (by rw [HTQ.out, if_neg (by rw [HLL.out]; exact hL0)])
                        have HRX0 : Hid (FRef w5 wa w.heap.size (w.heap.size + 2) w.heap.size (w.heap.size + 1) qu.length s.w s.d T' AR cR At ct (fun j => blkOf Ao = some j)) := Lib.hid (by rw [HTE.out]; exact HRW.out)
                        have HNN : Hid (s.t.length = T'.length) := Lib.hid (by rw [HTE.out])
                        have z0' := z0
                        have z1' := z1
                        have hzx := hza
                        clear hL0 z0 z1
                        go_upto_region 42 with fail
                        have hms := HRX0.out.ws i hi
                        rw [HLL.out] at hms
                        have HBX : Hid (∀ m o, Below wa.heap.size wa ((wa.drewN m).alloc o)) := Lib.hid fun m o => balloc (bdrewN (bself _) _) _
                        have HOW : Hid (∀ m o, OwnF ((wa.drewN m).alloc o) (w.heap.size + 2) 3 (AR i) L (cR i) (s.w i)) := Lib.hid fun m o => by have h0 := (HRX0.out.own i hi).next (HBX.out m o); rw [HLL.out] at h0; exact h0
                        have HNE : Hid (∀ m ty, Cells ((wa.drewN m).alloc (.cells #[.int .i64 sz] ty)) (some ⟨wa.heap.size, 0, none⟩) [.int .i64 sz]) := Lib.hid (fun m ty => Cells.newAt (wa.drewN m) ty [.int .i64 sz] rfl)
                        have HWX : Hid (w.heap.size < wa.heap.size) := Lib.hid (by have := HRX0.out.lo.2.2.2.2.2; omega)
                        have HBY : Hid (∀ m o, w.heap.size + 2 ≤ ((wa.drewN m).alloc o).heap.size) := Lib.hid (fun m o => Nat.le_trans HRX0.out.lo.2.2.2.2.2 (HBX.out m o).size)
                        have HAK : Hid (∀ k, blkOf (AR i) = some k → k ≠ w.heap.size) := Lib.hid (fun k hk e => (HRX0.out.owned hi).2 (e ▸ hk))
                        have HKG : Hid (∀ m o A' w', Grew ((wa.drewN m).alloc o) w' (AR i) A' → w'.heap[w.heap.size]? = wa.heap[w.heap.size]? ∧ w'.heap[w5.heap.size]? = wa.heap[w5.heap.size]?) := Lib.hid (fun m o A' w' hg => ⟨(hg.grown.block _ (Nat.lt_of_lt_of_le HWX.out (HBX.out m o).size) (fun e => HAK.out _ e.symm rfl)).trans ((HBX.out m o).block _ HWX.out), (hg.grown.block _ (Nat.lt_of_lt_of_le hzx (HBX.out m o).size) (fun e => by have := HAL.out _ _ hi e.symm; omega)).trans ((HBX.out m o).block _ hzx)⟩)
                        have i0 : ∀ m o, ((wa.drewN m).alloc o).cell? ⟨w.heap.size, i, none⟩ = some (.slice (AR i) L (cR i)) := fun m o => ((HBX.out m o).cell (p := ⟨w.heap.size, i, none⟩) HWX.out).trans hms
                        have i1 : ∀ m o, ((wa.drewN m).alloc o).cell? ⟨w5.heap.size, 0, none⟩ = some (.int .i64 (i : Int)) := fun m o => ((HBX.out m o).cell (p := ⟨w5.heap.size, 0, none⟩) hzx).trans z0'
                        have i2 : ∀ m o, ((wa.drewN m).alloc o).cell? ⟨w5.heap.size, 1, none⟩ = some (.int .i64 sz) := fun m o => ((HBX.out m o).cell (p := ⟨w5.heap.size, 1, none⟩) hzx).trans z1'
                        have fwE := HRX0.out.fw
                        have hwx := HWX.out
                        have hwx2 : w.heap.size ≠ wa.heap.size := by omega
                        have hzx2 : w5.heap.size ≠ wa.heap.size := by omega
                        have HHS : Hid (fr.has ⟨fr.upd s.w i (s.w i ++ [sz]), s.d, if (s.w i).length = 0 then s.t ++ [i] else s.t, s.f⟩ = fr.has s) := Lib.hid (by
                          unfold fr.has
                          simp only
                          cases hf : s.f with
                          | false => rfl
                          | true =>
                            have h1 := HT.out.inv.fed hf
                            cases hst : s.t with
                            | nil => exact absurd hst h1
                            | cons a r => by_cases c : s.w i = [] <;> simp [c])
                        clear hb0 m1
                        go_cut [10] (fun s10 wx => s10 = .slice At s.t.length ct ∧ ∃ AA cc, Hid (FRef w5 wx w.heap.size (w.heap.size + 2) w.heap.size (w.heap.size + 1) qu.length (fr.upd s.w i (s.w i ++ [sz])) s.d (if (s.w i).length = 0 then s.t ++ [i] else s.t) AA cc At ct (fun j => blkOf Ao = some j)))
                        case first =>
                          refine wp_region_tail [13] (fun wx => wx.cell? ⟨w5.heap.size, 0, none⟩ = some (.int .i64 (i : Int)) ∧ wx.cell? ⟨w.heap.size, i, none⟩ = some (.slice (AR i) L (cR i)) ∧ wx.cell? ⟨w5.heap.size, 1, none⟩ = some (.int .i64 sz)) (by kernel_rfl) (⟨z0', hms, z1'⟩) ?_
                          intro hHeld
                          refine wpAnyT_pure (i := 0) (v := ?_) rfl (by kernel_rfl) (by kernel_rfl) (by kernel_rfl) (fun _ _ _ h => h) (.inl ⟨by rfl, ?_⟩) (fun _ => hHeld) ?_ (by decide)
                          rotate_left
                          · intro w9; go_simp; try with_reducible rfl
                          simp only [Act.put, List.setIfInBounds_toArray, List.set_cons_zero, List.set_cons_succ]
                          refine wpAnyT_pure (i := 1) (v := ?_) rfl (by kernel_rfl) (by kernel_rfl) (by kernel_rfl) (fun _ _ _ h => h) (.inl ⟨by rfl, ?_⟩) (fun _ => hHeld) ?_ (by decide)
                          rotate_left
                          · intro w9; go_simp; try with_reducible rfl
                          simp only [Act.put, List.setIfInBounds_toArray, List.set_cons_zero, List.set_cons_succ]
                          refine wpAnyT_take (i := 2) [12, 13] (v := ?_) rfl (by kernel_rfl) (by kernel_rfl) (by kernel_rfl) (by kernel_rfl) (fun _ _ _ h => h) (.inl ⟨by rfl, ?_⟩) hHeld ?_
                          rotate_left
                          · intro w9 hS9; (try dsimp only at hS9); go_simp; try with_reducible rfl
                          simp only [Act.put, List.setIfInBounds_toArray, List.set_cons_zero, List.set_cons_succ]
                          refine wpAnyT_pure (i := 3) (v := ?_) rfl (by kernel_rfl) (by kernel_rfl) (by kernel_rfl) (fun _ _ _ h => h) (.inl ⟨by rfl, ?_⟩) (fun _ => hHeld) ?_ (by decide)
                          rotate_left
                          · intro w9; go_simp; try with_reducible rfl
                          simp only [Act.put, List.setIfInBounds_toArray, List.set_cons_zero, List.set_cons_succ]
                          refine wpAnyT_pure (i := 4) (v := ?_) rfl (by kernel_rfl) (by kernel_rfl) (by kernel_rfl) (fun _ _ _ h => h) (.inl ⟨by rfl, ?_⟩) (fun _ => hHeld) ?_ (by decide)
                          rotate_left
                          · intro w9; go_simp; try with_reducible rfl
                          simp only [Act.put, List.setIfInBounds_toArray, List.set_cons_zero, List.set_cons_succ]
                          refine wpAnyT_take (i := 5) [6, 7, 11, 13] (v := ?_) rfl (by kernel_rfl) (by kernel_rfl) (by kernel_rfl) (by kernel_rfl) (fun _ _ _ h => h) (.inl ⟨by rfl, ?_⟩) hHeld ?_
                          rotate_left
                          · intro w9 hS9; (try dsimp only at hS9); go_simp; try with_reducible rfl
                          simp only [Act.put, List.setIfInBounds_toArray, List.set_cons_zero, List.set_cons_succ]
                          refine wpAnyT_pure (i := 6) (v := ?_) rfl (by kernel_rfl) (by kernel_rfl) (by kernel_rfl) (fun _ _ _ h => h) (.inl ⟨by rfl, ?_⟩) (fun _ => hHeld) ?_ (by decide)
                          rotate_left
                          · intro w9; go_simp; try with_reducible rfl
                          simp only [Act.put, List.setIfInBounds_toArray, List.set_cons_zero, List.set_cons_succ]
                          refine wpAnyT_take (i := 7) [11, 13] (v := ?_) rfl (by kernel_rfl) (by kernel_rfl) (by kernel_rfl) (by kernel_rfl) (fun _ _ _ h => h) (.inl ⟨by rfl, ?_⟩) hHeld ?_
                          rotate_left
                          · intro w9 hS9; (try dsimp only at hS9); go_simp; try with_reducible rfl
                          simp only [Act.put, List.setIfInBounds_toArray, List.set_cons_zero, List.set_cons_succ]
                          refine wpAnyT_pure (i := 8) (v := ?_) rfl (by kernel_rfl) (by kernel_rfl) (by kernel_rfl) (fun _ _ _ h => h) (.inl ⟨by rfl, ?_⟩) (fun _ => hHeld) ?_ (by decide)
                          rotate_left
                          · intro w9; go_simp; try with_reducible rfl
                          simp only [Act.put, List.setIfInBounds_toArray, List.set_cons_zero, List.set_cons_succ]
                          refine wpAnyT_take (i := 9) [10, 11, 13] (v := ?_) rfl (by kernel_rfl) (by kernel_rfl) (by kernel_rfl) (by kernel_rfl) (fun _ _ _ h => h) (.inl ⟨by rfl, ?_⟩) hHeld ?_
                          rotate_left
                          · intro w9 hS9; (try dsimp only at hS9); go_simp; try with_reducible rfl
                          simp only [Act.put, List.setIfInBounds_toArray, List.set_cons_zero, List.set_cons_succ]
                          refine wpAnyT_next (i := 10) (by kernel_rfl) rfl ?_
                          intro K hK
                          go_simp
                          refine hK.out _ _ (fun _ => ⟨i1 _ _, i0 _ _, i2 _ _⟩) ?_
                          clear hK K hHeld
                          refine wpAnyT_next (i := 11) (by kernel_rfl) rfl ?_
                          intro K hK
                          refine step_appF _ (by rfl) _ _ _ (by rfl) fr.elemI (w.heap.size + 2) (AR i) L (cR i) (s.w i) (by rfl) (HOW.out _ _) (some ⟨wa.heap.size, 0, none⟩) 1 sz (by rfl) (HNE.out _ _) (by omega) (by unfold maxLen; omega) (HBY.out _ _) ?_
                          intro A7 c7 w7 h7 hg7
                          have hz7 := (HKG.out _ _ _ _ hg7).1
                          have hz8 := (HKG.out _ _ _ _ hg7).2
                          have b2 := (World.cell?_of_block (a := ⟨w5.heap.size, 0, none⟩) hz8).trans z0'
                          have b3 := (World.cell?_of_block (a := ⟨w5.heap.size, 1, none⟩) hz8).trans z1'
                          have b1 := (World.cell?_of_block (a := ⟨w.heap.size, i, none⟩) hz7).trans hms
                          have bf := fun o => (World.frozen?_of_block (a := ⟨w.heap.size, o, none⟩) hz7).trans (fwE o)
                          have H7A := Lib.hid h7
                          have H7G := Lib.hid hg7
                          clear h7 hg7 hz7 hz8
                          refine hK.out _ _ (fun _ => ⟨b2, b1, b3⟩) ?_
                          clear hK K
                          try simp only [Act.put, List.setIfInBounds_toArray, List.set_cons_zero, List.set_cons_succ]
                          refine wpAnyT_pure (i := 12) (v := ?_) rfl (by kernel_rfl) (by kernel_rfl) (by kernel_rfl) (fun _ _ _ h => h) (.inl ⟨by rfl, ?_⟩) (fun _ => ⟨b2, b1, b3⟩) ?_ (by decide)
                          rotate_left
                          · intro w9; go_simp; try with_reducible rfl
                          simp only [Act.put, List.setIfInBounds_toArray, List.set_cons_zero, List.set_cons_succ]
                          refine wpAnyT_next (i := 13) (by kernel_rfl) rfl ?_
                          intro K hK
                          go_simp
                          refine hK.out _ _ (fun h => absurd ((by kernel_rfl : false = _).trans h) Bool.false_ne_true) ?_
                          clear hK K
                          refine wpAnyT_done (by kernel_rfl) ?_ _
                          go_wp2_with fail
                          go_meet
                          exact ⟨rfl, _, _, Lib.hid (((HRX0.out.next (HBX.out _ _)).waits (i := i) (A' := A7) (n' := L + 1) (c' := c7) (W' := s.w i ++ [sz]) hi H7G.out H7A.out).as (W' := fr.upd s.w i (s.w i ++ [sz])) (d' := s.d) (T' := if (s.w i).length = 0 then s.t ++ [i] else s.t) rfl rfl HTQ.out.symm)⟩
                        case rest =>
                          obtain ⟨rfl, AA, cc, HRX⟩ := hcut
                          clear i0 i1 i2 hms z0' z1' fwE hwx hwx2 hzx2
                          have HSP : Hid (fr.step qu.length (fr.qs qu) s ⟨(i : Int), sz⟩ = (⟨fr.upd s.w i (s.w i ++ [sz]), s.d, if (s.w i).length = 0 then s.t ++ [i] else s.t, s.f⟩, ⟨0, 0, 0⟩)) := Lib.hid (by rw [fr.step_come (nq := qu.length) (q := fr.qs qu) (s := s) (x := ⟨(i : Int), sz⟩) hz0]; unfold fr.come; rw [if_neg (by dsimp only; omega), if_neg (by rw [Int.toNat_natCast, HLL.out]; omega), Int.toNat_natCast])
                          have HR6 := Lib.hid (HRX.out)
                          have HO6 := Lib.hid (HT.out.own6 HR6.out.kept)
                          have hs6 := Nat.le_trans hws HR6.out.bel.size
                          go_wp2_with (first
                            | (at_builtin; refine wp_app _ rfl _ _ _ rfl fr.elemS w.heap.size Ao k co _ rfl (HO6.out.alloc _) _ 1 1 [.int .i64 0, .int .i64 0, .int .i64 0] rfl rfl (Cells.newAt _ _ _ (by simp)) (by simp [Value.oneCell']) (by omega) (by unfold maxLen; omega) (by simp; omega) ?_; intro A3 c3 w8 ho8 hg8; have HAT8 := Lib.hid (HNX.out _ _ A3 c3 _ _ _ w8 _ _ _ HSP.out HR6.out ((Below.refl _ _).alloc (Nat.le_refl _) _) hg8 ho8); clear ho8 hg8)
                            | fail)
                          go_roundw
                          case rel => exact ⟨k + 1, _, _, A3, c3, _, _, by rw [HNN.out, HTQ.out], by rw [HHS.out], rfl, by go_num, by omega, HAT8⟩
                          case measure => simp [intOf]; omega
            · have hd1 : decide (sz > 0) = false := by simp; omega
              have hd1' : decide (0 < sz) = false := by simp; omega
              by_cases ht : s.t = []
              · have hte : ((s.t.length : Int) == 0) = true := by rw [beq_iff_eq, ht]; rfl
                have HTN := Lib.hid ht
                clear ht
                go_upto_region 33 with fail
                rw [← HWA.out]
                have HSP : Hid (fr.step qu.length (fr.qs qu) s ⟨fl, sz⟩ = (s, ⟨7, 0, 0⟩)) := Lib.hid (fr.step_none (nq := qu.length) (q := fr.qs qu) (s := s) (x := ⟨fl, sz⟩) (by simp only; omega) HTN.out)
                have HR6 := Lib.hid (HRW.out)
                have HO6 := Lib.hid (HT.out.own6 HR6.out.kept)
                have hs6 := Nat.le_trans hws HR6.out.bel.size
                go_wp2_with (first
                  | (at_builtin; refine wp_app _ rfl _ _ _ rfl fr.elemS w.heap.size Ao k co _ rfl (HO6.out.alloc _) _ 1 1 [.int .i64 7, .int .i64 0, .int .i64 0] rfl rfl (Cells.newAt _ _ _ (by simp)) (by simp [Value.oneCell']) (by omega) (by unfold maxLen; omega) (by simp; omega) ?_; intro A3 c3 w8 ho8 hg8; have HAT8 := Lib.hid (HNX.out _ _ A3 c3 _ _ _ w8 _ _ _ HSP.out HR6.out ((Below.refl _ _).alloc (Nat.le_refl _) _) hg8 ho8); clear ho8 hg8)
                  | fail)
                go_roundw
                case rel => exact ⟨k + 1, _, _, A3, c3, _, _, rfl, rfl, rfl, by go_num, by omega, HAT8⟩
                case measure => simp [intOf]; omega
              · have hte : ((s.t.length : Int) == 0) = false := by
                  rw [beq_eq_false_iff_ne]
                  have := List.length_pos_iff.2 ht
                  omega
                go_upto_region 33 with fail
                rw [← HWA.out]
                obtain ⟨SF, hSF⟩ : ∃ SF, SF = fr.spin (fr.qs qu) (fr.mu s + 1) s := ⟨_, rfl⟩
                have HSF := Lib.hid hSF
                have HTN := Lib.hid ht
                clear hSF ht
                go_upto_block 5 with fail
                clear z0 z1
                go_cut [10, 11] (fun s10 s11 wx => ∃ At' ct' i tl, s10 = .slice At' SF.t.length ct' ∧ s11 = .int .i64 (i : Nat) ∧ Hid (FRef w5 wx w.heap.size (w.heap.size + 2) w.heap.size (w.heap.size + 1) qu.length SF.w SF.d SF.t AR cR At' ct' (fun j => blkOf Ao = some j)) ∧ Hid (fr.Inv qu.length SF ∧ SF.t = i :: tl ∧ SF.f = true ∧ fr.first SF i ≤ SF.d i))
                case first =>
                  go_wp2_with fail
                  go_loopg [10, 11] (fr.mu s + 1) (fun n rg hs wr => ∃ (s' : fr.St) (At' : Option Addr) (ct' : Nat), rg = .slice At' s'.t.length ct' ∧ hs = .int .i64 (fr.has s') ∧ Hid (FRef w5 wr w.heap.size (w.heap.size + 2) w.heap.size (w.heap.size + 1) qu.length s'.w s'.d s'.t AR cR At' ct' (fun j => blkOf Ao = some j)) ∧ Hid (fr.Inv qu.length s' ∧ s'.t ≠ [] ∧ fr.mu s' < n ∧ fr.spin (fr.qs qu) n s' = SF))
                  case atStart => exact ⟨s, At, ct, rfl, rfl, HRW, Lib.hid ⟨HT.out.inv, HTN.out, by omega, HSF.out.symm⟩⟩
                  case round =>
                    obtain ⟨s', At', ct', rfl, rfl, H1, H2⟩ := hrel
                    rename World => wr
                    have hinv := H2.out.1
                    obtain ⟨i, tl, ht⟩ : ∃ i tl, s'.t = i :: tl := by
                      cases hs : s'.t with
                      | nil => exact absurd hs H2.out.2.1
                      | cons i tl => exact ⟨i, tl, rfl⟩
                    have hmu := H2.out.2.2.1
                    obtain ⟨m, rfl⟩ : ∃ m, gk = m + 1 := ⟨gk - 1, by omega⟩
                    have hi := (hinv.waits i (by rw [ht]; simp)).1
                    have hwi := (hinv.waits i (by rw [ht]; simp)).2
                    have hod := hinv.owed i
                    have hqi := fr.qs_ok HQT.out i hi
                    obtain ⟨x, r, hw⟩ : ∃ x r, s'.w i = x :: r := by
                      cases hs : s'.w i with
                      | nil => exact absurd hs hwi
                      | cons x r => exact ⟨x, r, rfl⟩
                    have hfx : fr.first s' i = x := by unfold fr.first; rw [hw]; rfl
                    have hfp := fr.first_pos hinv (i := i) (by rw [ht]; simp)
                    rw [hfx] at hfp
                    have hBw : Below w.heap.size w wr := HT.out.below.trans H1.out.bel
                    obtain ⟨bq, oq, hA1, hbq, hcq⟩ := int_at (HQ.out.below hBw) hi
                    have hbq2 : bq < wr.heap.size := Nat.lt_of_lt_of_le hbq hBw.size
                    have l7 := H1.out.lo.2.2.2.2.2
                    have kd := H1.out.fd
                    have m1 := H1.out.ws i hi
                    have m2 := H1.out.ds i hi
                    have ho := H1.out.own i hi
                    have hot := H1.out.turn
                    rw [hw, List.length_cons] at m1 ho
                    rw [ht, List.length_cons, List.map_cons] at hot
                    obtain ⟨g, off, hA, hga, hgb, hgx⟩ := ho.cell (j := 0) (by simp)
                    obtain ⟨gt, ot, hAt, hta, htb, htx⟩ := hot.cell (j := 0) (by simp)
                    simp only [List.getD_cons_zero, Nat.add_zero] at hgx htx
                    subst hAt
                    rw [hA] at m1
                    subst hA1
                    have hcuT := fun V => run_cut_l (P := Try.prog) fr.elemI (some ⟨gt, ot, none⟩) (tl.length + 1) ct' 1 (by omega) 1 rfl V
                    have hii : (i : Int) < (qu.length : Int) := by omega
                    have HIV := Lib.hid hinv
                    have HW := Lib.hid hw
                    have HTI := Lib.hid ht
                    have HFX := Lib.hid hfx
                    have HMU2 := Lib.hid H2.out.2.2.1
                    have HSP := Lib.hid H2.out.2.2.2
                    have HAI := Lib.hid hA
                    have HOT := Lib.hid hot
                    clear hA hot hwi ho hinv hfx H2 hmu
                    change wr.cell? ⟨bq, oq + i, none⟩ = some (.int .i64 (fr.qs qu i)) at hcq
                    obtain ⟨qi, hqe⟩ : ∃ qi, qi = fr.qs qu i := ⟨_, rfl⟩
                    rw [← hqe] at hcq hqi
                    have HQI := Lib.hid hqe
                    obtain ⟨di, hde⟩ : ∃ di, di = s'.d i := ⟨_, rfl⟩
                    rw [← hde] at m2 hod
                    have HDI := Lib.hid hde
                    have hwr : IntKind.i64.wrap (di + qi) = di + qi := IntWalk.i64_in _ (by omega)
                    obtain ⟨f0, HF⟩ : ∃ f0, Hid (f0 = s'.f) := ⟨_, Lib.hid rfl⟩
                    obtain ⟨tn, htn⟩ : ∃ tn, tn = s'.t.length := ⟨_, rfl⟩
                    have HTL : Hid (tn = tl.length + 1) := Lib.hid (by rw [htn, ht]; rfl)
                    rw [← htn]
                    have htn1 : tn = tl.length + 1 := HTL.out
                    obtain ⟨h0, hh0⟩ : ∃ h0, h0 = fr.has s' := ⟨_, rfl⟩
                    rw [← hh0]
                    have HH0 := Lib.hid hh0
                    obtain ⟨SG, HSG⟩ : ∃ SG, Hid (SG = fr.give (fr.qs qu) s' i) := ⟨_, Lib.hid rfl⟩
                    clear ht hw hqe hde htn hh0
                    subst htn1
                    go_upto_if 61 with (fail)
                    go_cut [11] (fun s11 wx => s11 = .int .i64 (i : Nat) ∧ Hid (FRef w5 wx w.heap.size (w.heap.size + 2) w.heap.size (w.heap.size + 1) qu.length SG.w SG.d SG.t AR cR (some ⟨gt, ot, none⟩) ct' (fun j => blkOf Ao = some j)))
                    case first =>
                      cases f0 with
                      | false =>
                        have hh : h0 = -1 := by rw [HH0.out]; exact fr.has_no HF.out.symm
                        have hb1 : (h0 == (i : Int)) = false := by rw [beq_eq_false_iff_ne]; omega
                        have hb2 : (h0 != (i : Int)) = true := by rw [bne_iff_ne]; omega
                        clear hh
                        go_upto_region 20 with fail
                        go_region_law (fail)
                        all_goals
                          go_wp2_with fail
                          go_meet
                          refine ⟨rfl, Lib.hid ?_⟩
                          have h9 := (H1.out.debt hi (di + qi)).as (W' := SG.w) (d' := SG.d) (T' := SG.t) (by rw [HSG.out]; exact (fr.give_w _ s' i).1) (by rw [HSG.out, fr.give_d HF.out.symm, HDI.out, HQI.out]) (by rw [HSG.out]; exact (fr.give_w _ s' i).2.1)
                          first
                            | exact h9
                            | exact h9.next (Below.drew (Below.refl _ _))
                            | exact h9.next (bdrewN (Below.refl _ _) _)
                      | true =>
                        have hh : h0 = (i : Int) := by rw [HH0.out]; exact fr.has_yes HTI.out HF.out.symm
                        have hb1 : (h0 == (i : Int)) = true := by rw [beq_iff_eq]; omega
                        have hb2 : (h0 != (i : Int)) = false := by rw [hh]; simp
                        have HHH := Lib.hid hh
                        clear hh
                        go_wp2_with fail
                        go_meet
                        have hsg : SG = s' := by rw [HSG.out]; unfold fr.give; rw [← HF.out]; rfl
                        exact ⟨by rw [HHH.out], by rw [hsg]; exact H1⟩
                    case rest =>
                      obtain ⟨rfl, H5⟩ := hcut
                      have hgv := fr.inv_give (fr.qs_ok HQT.out) HIV.out HTI.out
                      have hgw := fr.give_w (fr.qs qu) s' i
                      have hgd := fr.give_debt (fr.qs_ok HQT.out) HIV.out HTI.out
                      have hgf := fr.give_first (fr.qs qu) s' i i
                      rw [HFX.out] at hgf
                      rw [← HSG.out] at hgv hgw hgd hgf
                      have HGV := Lib.hid hgv
                      have HGW := Lib.hid hgw
                      have HGF := Lib.hid hgf
                      clear hgv hgw hgf m1 m2 hgx htx kd hcq hod
                      obtain ⟨D, hD⟩ : ∃ D, D = SG.d i := ⟨_, rfl⟩
                      rw [← hD] at hgd
                      have hrc := H5.out
                      rw [HGW.out.1, HGW.out.2.1] at hrc
                      have n1 := hrc.ws i hi
                      have n2 := hrc.ds i hi
                      rw [← hD] at n2
                      have no2 := hrc.own i hi
                      rw [HW.out, List.length_cons] at n1 no2
                      obtain ⟨g5, off5, hA5, _, _, hgx5⟩ := no2.cell (j := 0) (by simp)
                      rw [HAI.out] at hA5
                      cases hA5
                      simp only [List.getD_cons_zero, Nat.add_zero] at hgx5
                      rw [HAI.out] at n1
                      have hrt := hrc.turn
                      rw [HTI.out, List.length_cons, List.map_cons] at hrt
                      have HRT := Lib.hid hrt
                      have HD := Lib.hid hD
                      have hlo5 := hrc.lo.2.2.2.2.2
                      clear hD hrc no2 hrt
                      by_cases hxd : x ≤ D
                      · have hx1 : decide (x ≤ D) = true := by simp [hxd]
                        go_upto_region 21 with fail
                        go_quiet (fail)
                        all_goals
                          go_wp2_with fail
                          go_meet
                          have hgl : fr.first SG i ≤ SG.d i := by rw [HGF.out, ← HD.out]; exact hxd
                          have hsf : SF = SG := by
                            have h1 := hgl
                            rw [HSG.out] at h1
                            rw [← HSP.out]
                            unfold fr.spin
                            rw [HTI.out]
                            simp only
                            rw [if_pos h1, HSG.out]
                          have hgt : SG.t = i :: tl := HGW.out.2.1.trans HTI.out
                          refine ⟨some ⟨gt, ot, none⟩, ct', i, tl, by rw [hsf, hgt]; rfl, rfl, Lib.hid ?_, Lib.hid ⟨by rw [hsf]; exact HGV.out, by rw [hsf]; exact hgt, by rw [hsf]; exact HGW.out.2.2, by rw [hsf]; exact hgl⟩⟩
                          rw [hsf]
                          first
                            | exact H5.out.next (bdrewN (Below.refl _ _) _)
                            | exact H5.out
                      · have hx1 : decide (x ≤ D) = false := by simp [hxd]
                        go_upto_region 21 with fail
                        go_quiet (fail)
                        all_goals
                          go_upto_region 22 with fail
                          generalize hwd : wc.drewN nq = wd
                          have hbd : Below wc.heap.size wc wd := by rw [← hwd]; exact (by repeat (first | (with_reducible exact Below.refl _ _) | (with_reducible assumption) | (with_reducible refine bset ?_ ?_ _) | (with_reducible refine balloc ?_ _) | (with_reducible refine Below.drew ?_) | (with_reducible refine bdrewN ?_ _) | (with_reducible refine bnext ?_ (by with_reducible assumption)) | exact Nat.le_refl _ | (simp; done) | omega | (simp; omega)))
                          have HBD := Lib.hid hbd
                          have hlod := Nat.le_trans hlo5 hbd.size
                          clear hwd hbd n1 n2 hgx5
                          have HTL2 := Lib.hid (HRT.out.tail.next HBD.out)
                          have HCC : Hid (Cells wd (cutA (some ⟨gt, ot, none⟩) ct' 1 1) ((tl.map fun i : Nat => (i : Int)).map (Value.int .i64))) := Lib.hid HTL2.out.cells
                          have HLN : Hid (((tl.map fun i : Nat => (i : Int)).map (Value.int .i64)).length = tl.length * 1) := Lib.hid (by simp)
                          have HONE : Hid (∀ u ∈ ((tl.map fun i : Nat => (i : Int)).map (Value.int .i64)), u.oneCell' = true) := Lib.hid (fun u hu => by obtain ⟨y, _, rfl⟩ := List.mem_map.1 hu; rfl)
                          have htl : tl.length + 1 ≤ 6 := by
                            have h1 := nodup_short qu.length s'.t HIV.out.nodup (fun y hy => (HIV.out.waits y hy).1)
                            rw [HTI.out, List.length_cons] at h1
                            omega
                          go_wp2_with (first
                            | (at_builtin; refine wp_app _ rfl _ _ _ rfl fr.elemI (w.heap.size + 2) none 0 0 [] rfl (Own.nil _ _ _ _) (cutA (some ⟨gt, ot, none⟩) ct' 1 1) tl.length (ct' - 1) _ rfl HLN.out HCC.out HONE.out (by omega) (by unfold maxLen; omega) hlod ?_; intro A6 c6 w6 ho6 hg6; rw [Nat.zero_add, List.nil_append] at ho6; have HO6 := Lib.hid (OwnF.of_own ho6); have HG6 := Lib.hid hg6; have hl6 := Nat.le_trans hlod hg6.grown.size; clear ho6 hg6)
                            | (at_builtin; refine wp_appF _ rfl _ _ _ rfl fr.elemI (w.heap.size + 2) A6 tl.length c6 (tl.map fun i : Nat => (i : Int)) rfl (HO6.out.next ((Below.refl _ _).alloc (Nat.le_refl _) _)) (some ⟨w6.heap.size, 0, none⟩) 1 (i : Int) rfl (Cells.newAt w6 _ [.int .i64 (i : Int)] rfl) (by omega) (by unfold maxLen; omega) (Nat.le_trans hl6 (by simp)) ?_; intro A7 c7 w7 h7 hg7; have HO7 := Lib.hid h7; have HG7 := Lib.hid ((HG6.out.alloc _).trans hg7); clear h7 hg7)
                            | fail)
                          have hnl : ¬ fr.first SG i ≤ SG.d i := by rw [HGF.out, ← HD.out]; omega
                          have HNL := Lib.hid hnl
                          have h9 := ((H5.out.next HBD.out).turnNew (T' := tl ++ [i]) HG7.out (by have h0 := HO7.out; rw [List.map_append]; exact h0)).1
                          have HR9 := Lib.hid h9
                          have HGI : Hid (fr.Inv qu.length (fr.over SG i tl)) := Lib.hid (fr.inv_over HGV.out (HGW.out.2.1.trans HTI.out) (by have := HNL.out; omega))
                          have HMM : Hid (fr.mu (fr.over SG i tl) < m) := Lib.hid (by
                            have h0 := fr.mu_over (fr.qs_ok HQT.out) HIV.out HTI.out (by have h1 := HNL.out; rw [HSG.out] at h1; omega)
                            rw [← HSG.out] at h0
                            have := HMU2.out
                            omega)
                          have HSS : Hid (fr.spin (fr.qs qu) m (fr.over SG i tl) = SF) := Lib.hid (by
                            have h1 := HNL.out
                            rw [HSG.out] at h1
                            rw [← HSP.out]
                            conv => rhs; unfold fr.spin
                            rw [HTI.out]
                            simp only
                            rw [if_neg h1, HSG.out])
                          clear hnl h9
                          go_roundg m
                          case measure => omega
                          case rel => exact ⟨fr.over SG i tl, A7, c7, by unfold fr.over; simp, by rw [fr.has_no rfl], Lib.hid HR9.out, Lib.hid ⟨HGI.out, by unfold fr.over; simp, HMM.out, HSS.out⟩⟩
                case rest =>
                  obtain ⟨At', ct', i, tl, rfl, rfl, HRX, HZ⟩ := hcut
                  have hinv := HZ.out.1
                  have hte2 := HZ.out.2.1
                  have hi := (hinv.waits i (by rw [hte2]; simp)).1
                  have hwi := (hinv.waits i (by rw [hte2]; simp)).2
                  have hod := hinv.owed i
                  obtain ⟨x, r, hw⟩ : ∃ x r, SF.w i = x :: r := by
                    cases hs : SF.w i with
                    | nil => exact absurd hs hwi
                    | cons x r => exact ⟨x, r, rfl⟩
                  have hfx : fr.first SF i = x := by unfold fr.first; rw [hw]; rfl
                  have hfp := fr.first_pos hinv (i := i) (by rw [hte2]; simp)
                  rw [hfx] at hfp
                  have hsh := hinv.short i
                  rw [hw, List.length_cons] at hsh
                  have n1 := HRX.out.ws i hi
                  have n2 := HRX.out.ds i hi
                  have kd := HRX.out.fd
                  have kw := HRX.out.fw
                  have ho := HRX.out.own i hi
                  have hot := HRX.out.turn
                  rw [hw, List.length_cons] at n1 ho
                  rw [hte2, List.length_cons, List.map_cons] at hot
                  obtain ⟨g, off, hA, _, _, hgx⟩ := ho.cell (j := 0) (by simp)
                  obtain ⟨gt, ot, hAt, _, _, htx⟩ := hot.cell (j := 0) (by simp)
                  simp only [List.getD_cons_zero, Nat.add_zero] at hgx htx
                  subst hAt
                  rw [hA] at n1
                  have hcuX := fun V => run_cut_l (P := Try.prog) fr.elemI (some ⟨g, off, none⟩) (r.length + 1) (cR i) 1 (by omega) 1 rfl V
                  have hcuT := fun V => run_cut_l (P := Try.prog) fr.elemI (some ⟨gt, ot, none⟩) (tl.length + 1) ct' 1 (by omega) 1 rfl V
                  have hii : (i : Int) < (qu.length : Int) := by omega
                  obtain ⟨tn, htn⟩ : ∃ tn, tn = SF.t.length := ⟨_, rfl⟩
                  have htn1 : tn = tl.length + 1 := by rw [htn, hte2]; rfl
                  rw [← htn]
                  have HTNN := Lib.hid htn
                  clear htn
                  subst htn1
                  obtain ⟨di, hde⟩ : ∃ di, di = SF.d i := ⟨_, rfl⟩
                  rw [← hde] at n2 hod
                  have hwr : IntKind.i64.wrap (di - x) = di - x := IntWalk.i64_in _ (by omega)
                  have hgrow : ∀ g', blkOf Ao = some g' → g' < w5.heap.size := fun g' h => (HT.out.own.lt g' h).2
                  have HGR := Lib.hid hgrow
                  have HSTEP : Hid (fr.step qu.length (fr.qs qu) s ⟨fl, sz⟩ = (fr.sent SF i tl, ⟨0, i, x⟩)) := Lib.hid (by
                    have h := fr.step_send (nq := qu.length) (q := fr.qs qu) (s := s) (x := ⟨fl, sz⟩) (by dsimp only; omega) HTN.out (i := i) (tl := tl) (by rw [← HSF.out]; exact hte2)
                    rw [← HSF.out, hfx] at h
                    exact h)
                  have H3 := Lib.hid (HRX.out.waits (i := i) (A' := cutA (AR i) (cR i) 1 1) (n' := r.length) (c' := cR i - 1) (W' := r) hi ⟨World.grownBy.refl _ _, .inl ho.cut_blk⟩ ho.tail)
                  rw [hA] at H3
                  have HW := Lib.hid hw
                  have HTE := Lib.hid hte2
                  have HDE := Lib.hid hde
                  have HFX := Lib.hid hfx
                  have HGG := Lib.hid hA
                  clear hw hte2 hde hfx hA hwi hinv ho hot hgrow
                  by_cases hr0 : r.length = 0
                  · as_aux_lemma =>
                      have hr1 : ((r.length : Int) == 0) = true := by rw [beq_iff_eq]; omega
                      have HRN : Hid (r = []) := Lib.hid (List.eq_nil_of_length_eq_zero hr0)
                      clear hr0
                      have HSP : Hid (fr.step qu.length (fr.qs qu) s ⟨fl, sz⟩ = (⟨fr.upd SF.w i [], fr.upd SF.d i 0, tl, false⟩, ⟨0, i, x⟩)) := Lib.hid (by
                        rw [HSTEP.out]
                        unfold fr.sent
                        rw [HW.out, List.tail_cons, if_pos HRN.out])
                      have H5 := Lib.hid (H3.out.debt hi 0)
                      have h6 := H5.out.turn
                      rw [HTE.out, List.length_cons, List.map_cons] at h6
                      have HR6 := Lib.hid ((H5.out.turnOn (A' := cutA (some ⟨gt, ot, none⟩) ct' 1 1) (n' := tl.length) (c' := ct' - 1) (T' := tl) ⟨World.grownBy.refl _ _, .inl h6.cut_blk⟩ h6.tail).1.as (W' := fr.upd SF.w i []) (d' := fr.upd SF.d i 0) (T' := tl) (by rw [HRN.out]) rfl rfl)
                      clear h6 H5 H3
                      have HO6 := Lib.hid (HT.out.own6 HR6.out.kept)
                      have hs6 := Nat.le_trans hws HR6.out.bel.size
                      go_wp2_with (first
                        | (at_builtin; refine wp_app _ rfl _ _ _ rfl fr.elemS w.heap.size Ao k co _ rfl (HO6.out.alloc _) _ 1 1 [.int .i64 0, .int .i64 i, .int .i64 x] rfl rfl (Cells.newAt _ _ _ (by simp)) (by simp [Value.oneCell']) (by omega) (by unfold maxLen; omega) (by simp; omega) ?_; intro A3 c3 w8 ho8 hg8; have HAT8 := Lib.hid (HNX.out _ _ A3 c3 _ _ _ w8 _ _ _ HSP.out HR6.out ((Below.refl _ _).alloc (Nat.le_refl _) _) hg8 ho8); clear ho8 hg8)
                        | fail)
                      go_roundw
                      case rel => exact ⟨k + 1, _, _, A3, c3, _, _, rfl, by rw [fr.has_no rfl], rfl, by go_num, by omega, HAT8⟩
                      case measure => simp [intOf]; omega
                  · as_aux_lemma =>
                      have hr1 : ((r.length : Int) == 0) = false := by rw [beq_eq_false_iff_ne]; omega
                      have HRN : Hid (¬ r = []) := Lib.hid (fun e => hr0 (by rw [e]; rfl))
                      clear hr0
                      have HSP : Hid (fr.step qu.length (fr.qs qu) s ⟨fl, sz⟩ = (⟨fr.upd SF.w i r, fr.upd SF.d i (di - x), SF.t, SF.f⟩, ⟨0, i, x⟩)) := Lib.hid (by
                        rw [HSTEP.out]
                        unfold fr.sent
                        rw [HW.out, List.tail_cons, if_neg HRN.out, HFX.out, HDE.out])
                      have HR6 := Lib.hid (H3.out.debt hi (di - x))
                      clear H3
                      have HO6 := Lib.hid (HT.out.own6 HR6.out.kept)
                      have hs6 := Nat.le_trans hws HR6.out.bel.size
                      go_wp2_with (first
                        | (at_builtin; refine wp_app _ rfl _ _ _ rfl fr.elemS w.heap.size Ao k co _ rfl (HO6.out.alloc _) _ 1 1 [.int .i64 0, .int .i64 i, .int .i64 x] rfl rfl (Cells.newAt _ _ _ (by simp)) (by simp [Value.oneCell']) (by omega) (by unfold maxLen; omega) (by simp; omega) ?_; intro A3 c3 w8 ho8 hg8; have HAT8 := Lib.hid (HNX.out _ _ A3 c3 _ _ _ w8 _ _ _ HSP.out HR6.out ((Below.refl _ _).alloc (Nat.le_refl _) _) hg8 ho8); clear ho8 hg8)
                        | fail)
                      go_roundw
                      case rel => exact ⟨k + 1, _, _, A3, c3, _, _, by rw [← HTNN.out], congrArg (Value.int .i64) (fr.has_yes (s := ⟨fr.upd SF.w i r, fr.upd SF.d i (di - x), SF.t, SF.f⟩) HTE.out HZ.out.2.2.1).symm, rfl, by go_num, by omega, HAT8⟩
                      case measure => simp [intOf]; omega
        · obtain rfl : k = l.length := by omega
          go_wp2
          go_ret2
          have h0 := HT.out.tail
          rw [fr.plays_end, List.append_nil] at h0
          rw [HX.out.1, HX.out.2, ← h0]
          exact ⟨Ao, co, by rw [HT.out.len]; rfl, by rw [HT.out.len]; exact HT.out.own, HT.out.below⟩
end Go.Proofs.Ytedbidblnjajdaa
