/- Package lz: best. No condition. -/
import Derived.Test.YtkbmpppendelcaaLz4
import Derived.IntWalk
namespace Go.Proofs.Ytkbmpppendelcaa
open Go.RowKit

set_option maxRecDepth 100000 in
set_option maxHeartbeats 2000000 in
theorem lz_best (l : List UInt8) (A : Option Addr) (c a b n : Nat) (No : Nat → Prop) (w : World) (hl : SlRep Rep.u8 w (· < b) l A c) (ha : a < l.length) (hn : l.length ≤ 4096)
    (hG : Groups Try.prog 68 3 .i64 w b b n No (lzq.posV l a)) :
    Calls Try.prog 17 #[.map (some b), .slice A l.length c, .int .i64 a] w fun e w' => e = .returned (.agg #[.int .u8 0, .int .i64 (lzq.low (lzq.best l a (min 255 a))).1, .int .i64 (lzq.low (lzq.best l a (min 255 a))).2]) ∧ Below w.heap.size w w' := by
  have HL := Lib.hid hl
  have HG := Lib.hid hG
  have hbs := hG.lt
  clear hl hG
  go_enter Try.func17, Try.ntmps17
  by_cases h3 : a + 3 ≤ l.length
  · have h3i : (a : Int) + 3 ≤ (l.length : Int) := by omega
    have HP := Lib.hid (lzq.posV_at l a)
    rw [show lzq.keyV l a = lzq.keyVal (l.getD a 0) (l.getD (a + 1) 0) (l.getD (a + 2) 0) from rfl] at HP
    obtain ⟨kl, hkl⟩ := lzq.keyOf_val (l.getD a 0) (l.getD (a + 1) 0) (l.getD (a + 2) 0)
    have HK := Lib.hid hkl
    have hcl := fun W => run_cut_lh (P := Try.prog) elemU8 A l.length c a 3 (by have := HL.out.1; omega) (a : Int) ((a : Int) + 3) rfl rfl W
    obtain ⟨bb, o, e1, hbb, hc0, hc1, hc2⟩ := three_at HL.out h3
    rw [e1] at hcl
    have har := run_array3 (some ⟨bb, o, none⟩) (c - a)
    have hbw : bb < w.heap.size := by omega
    have HG0 : Hid (∀ W, Below w.heap.size w W → Groups Try.prog 68 3 .i64 W b b n (fun j => w.heap.size ≤ j) (lzq.posV l a)) := Lib.hid (fun W hB => HG.out.keep (fun j hj _ => hB.block j hj) (fun j hj => .inr hj))
    have HLE := Lib.hid (lzq.poss_len l (lzq.key l a) a)
    clear HG
    clear hkl e1
    generalize l.getD a 0 = x0 at *
    generalize l.getD (a + 1) 0 = x1 at *
    generalize l.getD (a + 2) 0 = x2 at *
    go_wp2_with (first
      | (refine wp_lookup _ rfl _ _ _ rfl 29 lzq.keyed Try.underlying45 (lzq.zeroIs _) rfl (HG0.out _ (by repeat (first | (with_reducible exact Below.refl _ _) | (with_reducible assumption) | (with_reducible refine bset ?_ ?_ _) | (with_reducible refine balloc ?_ _) | (with_reducible refine Below.drew ?_) | (with_reducible refine bdrewN ?_ _) | (with_reducible refine bnext ?_ (by with_reducible assumption)) | exact Nat.le_refl _ | (simp; done) | omega | (simp; omega)))) (lzq.keyVal x0 x1 x2) kl rfl HK.out ?_; intro A1 m1 c1 ho1 hno1; have HO1 := Lib.hid ho1; clear ho1)
      | fail)
    have HM : Hid (m1 = (lzq.poss l (lzq.key l a) a).length) := Lib.hid (by
      have h1 := HO1.out.len
      rw [HP.out, List.length_map, List.length_map] at h1
      omega)
    have hm4 : m1 ≤ 4096 := by have := HLE.out; have := HM.out; omega
    have HC : Hid (∀ j, j < m1 → ∃ g, A1 = some ⟨g, 0, none⟩ ∧ g < w.heap.size ∧ ∀ W, Below w.heap.size w W → W.cell? ⟨g, j, none⟩ = some (.int .i64 ((lzq.poss l (lzq.key l a) a).getD j 0 : Nat))) := Lib.hid (fun j hj => by
      have hm1 := HM.out
      obtain ⟨g, e1, _, _, hc⟩ := HO1.out.cell (j := j) (u := .int .i64 ((lzq.poss l (lzq.key l a) a).getD j 0 : Nat)) (by
        rw [HP.out, List.getElem?_map, List.getElem?_map, List.getElem?_eq_getElem (by omega), List.getD_eq_getElem?_getD, List.getElem?_eq_getElem (by omega)]
        rfl)
      have hg : g < w.heap.size := Nat.lt_of_not_le (hno1 g (by rw [e1]; rfl))
      exact ⟨g, e1, hg, fun W hW => (hW.cell (p := ⟨g, j, none⟩) hg).trans ((((Below.refl _ _).alloc (Nat.le_refl _) _).cell (p := ⟨g, j, none⟩) hg).symm.trans hc)⟩)
    clear HO1 hno1 HG0 HP HK hcl har hc0 hc1 hc2
    go_loopw [8] (fun i wr => ∃ j k : Nat, i = .int .i64 ((j : Int) - 1) ∧ Hid (lzq.Seen l a j k) ∧ wr.cell? ⟨w.heap.size, 0, none⟩ = some (.int .u8 0) ∧ wr.cell? ⟨w.heap.size, 1, none⟩ = some (.int .i64 ((lzq.low (lzq.best l a k)).1 : Nat)) ∧ wr.cell? ⟨w.heap.size, 2, none⟩ = some (.int .i64 ((lzq.low (lzq.best l a k)).2 : Nat)) ∧
      wr.frozen? ⟨w.heap.size, 0, none⟩ = false ∧ wr.frozen? ⟨w.heap.size, 1, none⟩ = false ∧ wr.frozen? ⟨w.heap.size, 2, none⟩ = false ∧ w.heap.size < wr.heap.size ∧ Below w.heap.size w wr) (fun i _ => (intOf i + 1).toNat)
    case atStart => exact ⟨m1, 0, by rw [show wrap64 ((m1 : Int) - 1) = (m1 : Int) - 1 from IntWalk.wrap64_in _ (by omega)], Lib.hid (by rw [HM.out]; exact lzq.seen_start l a), by simp [go_sem], by simp [go_sem, lzq.low, lzq.best], by simp [go_sem, lzq.low, lzq.best], by simp [go_sem], by simp [go_sem], by simp [go_sem], by simp, (by repeat (first | (with_reducible exact Below.refl _ _) | (with_reducible assumption) | (with_reducible refine bset ?_ ?_ _) | (with_reducible refine balloc ?_ _) | (with_reducible refine Below.drew ?_) | (with_reducible refine bdrewN ?_ _) | (with_reducible refine bnext ?_ (by with_reducible assumption)) | exact Nat.le_refl _ | (simp; done) | omega | (simp; omega)))⟩
    case round =>
      obtain ⟨j, k, hi, HS, d0, d1, d2, f0, f1, f2, hT, hB⟩ := hrel
      rename World => wr
      rcases Nat.eq_zero_or_pos j with rfl | hj
      · subst hi
        have HX : Hid (lzq.low (lzq.best l a (min 255 a)) = lzq.low (lzq.best l a k)) := Lib.hid (by rw [lzq.seen_end HS.out h3 (.inl rfl)])
        generalize lzq.low (lzq.best l a k) = s at *
        go_wp2
        refine bodyPost_ret (v := .agg #[.int .u8 0, .int .i64 (s.1 : Nat), .int .i64 (s.2 : Nat)]) (by first | (simp [results, Try.results17, go_sem]; done) | (simp [results, Try.results17, go_sem, *]; done)) rfl ⟨by rw [HX.out], (by repeat (first | (with_reducible exact Below.refl _ _) | (with_reducible assumption) | (with_reducible refine bset ?_ ?_ _) | (with_reducible refine balloc ?_ _) | (with_reducible refine Below.drew ?_) | (with_reducible refine bdrewN ?_ _) | (with_reducible refine bnext ?_ (by with_reducible assumption)) | exact Nat.le_refl _ | (simp; done) | omega | (simp; omega)))⟩
      · obtain ⟨j, rfl⟩ : ∃ j', j = j' + 1 := ⟨j - 1, by omega⟩
        rw [show ((j + 1 : Nat) : Int) - 1 = (j : Int) by omega] at hi
        subst hi
        have hjm : j < m1 := by have := HS.out.2.2.1; have := HM.out; omega
        have hjmi : (j : Int) < (m1 : Int) := by omega
        obtain ⟨g, rfl, hg, hcv⟩ := HC.out j hjm
        have hc := hcv wr hB
        have hgw : g < wr.heap.size := by omega
        have hva := (lzq.mem_poss.1 (lzq.poss_at (b := l) (q := lzq.key l a) (k := a) (j := j) (by have := HM.out; omega))).1
        by_cases hd : a - (lzq.poss l (lzq.key l a) a).getD j 0 ≤ 255
        · have HN := Lib.hid (lzq.seen_next HS.out h3 hd)
          clear HS hcv
          clear HC HM HLE
          generalize (lzq.poss l (lzq.key l a) a).getD j 0 = v at *
          have hdi : (a : Int) - (v : Int) ≤ 255 := by omega
          have HR := Lib.hid (lz_run l A c v a wr (HL.out.keep (S' := (· < b)) fun q hq => ⟨hq, hB.block q (by omega)⟩) hva (by omega) hn)
          obtain ⟨HN1, HN2⟩ : Hid (lzq.Seen l a j (a - v)) ∧ Hid _ := ⟨Lib.hid HN.out.1, Lib.hid HN.out.2⟩
          clear HN
          generalize lzq.low (lzq.best l a k) = s at *
          generalize lzq.run l v a = r at *
          by_cases hgt : s.2 < r
          · have hgi : (s.2 : Int) < (r : Int) := by omega
            have HV : Hid (lzq.low (lzq.best l a (a - v)) = (a - v, r)) := Lib.hid (by rw [HN2.out, if_pos hgt])
            have hav : ((a - v : Nat) : Int) = (a : Int) - (v : Int) := by omega
            go_wp2_with (first
              | (go_at_call 29; refine HR.out.mono ?_; rintro e w2 ⟨rfl, mm, hw2⟩; have g0 : w2.cell? ⟨w.heap.size, 0, none⟩ = some (.int .u8 0) := (by rw [hw2]; exact d0); have g1 : w2.cell? ⟨w.heap.size, 1, none⟩ = some (.int .i64 (s.1 : Nat)) := (by rw [hw2]; exact d1); have g2 : w2.cell? ⟨w.heap.size, 2, none⟩ = some (.int .i64 (s.2 : Nat)) := (by rw [hw2]; exact d2); have p0 : w2.frozen? ⟨w.heap.size, 0, none⟩ = false := (by rw [hw2]; exact f0); have p1 : w2.frozen? ⟨w.heap.size, 1, none⟩ = false := (by rw [hw2]; exact f1); have p2 : w2.frozen? ⟨w.heap.size, 2, none⟩ = false := (by rw [hw2]; exact f2); have q0 : w2.cell? ⟨g, j, none⟩ = some (.int .i64 (v : Nat)) := (by rw [hw2]; exact hc); have hT2 : w.heap.size < w2.heap.size := (by rw [hw2]; exact hT); have hB2 : Below w.heap.size w w2 := (by rw [hw2]; exact bdrewN hB _); clear hw2 d0 d1 d2 f0 f1 f2 hc HR)
              | fail)
            go_roundw
            case rel => exact ⟨j, a - v, by go_num, HN1, by simp [go_sem, *], by rw [HV.out, hav]; simp [go_sem, *], by rw [HV.out]; simp [go_sem, *], by simp [go_sem, *], by simp [go_sem, *], by simp [go_sem, *], by simpa using hT2, (by repeat (first | (with_reducible exact Below.refl _ _) | (with_reducible assumption) | (with_reducible refine bset ?_ ?_ _) | (with_reducible refine balloc ?_ _) | (with_reducible refine Below.drew ?_) | (with_reducible refine bdrewN ?_ _) | (with_reducible refine bnext ?_ (by with_reducible assumption)) | exact Nat.le_refl _ | (simp; done) | omega | (simp; omega)))⟩
            case measure => simp [intOf]
          · have hgi : ¬ (s.2 : Int) < (r : Int) := by omega
            have HV : Hid (lzq.low (lzq.best l a (a - v)) = s) := Lib.hid (by rw [HN2.out, if_neg hgt])
            go_wp2_with (first
              | (go_at_call 29; refine HR.out.mono ?_; rintro e w2 ⟨rfl, mm, hw2⟩; have g0 : w2.cell? ⟨w.heap.size, 0, none⟩ = some (.int .u8 0) := (by rw [hw2]; exact d0); have g1 : w2.cell? ⟨w.heap.size, 1, none⟩ = some (.int .i64 (s.1 : Nat)) := (by rw [hw2]; exact d1); have g2 : w2.cell? ⟨w.heap.size, 2, none⟩ = some (.int .i64 (s.2 : Nat)) := (by rw [hw2]; exact d2); have p0 : w2.frozen? ⟨w.heap.size, 0, none⟩ = false := (by rw [hw2]; exact f0); have p1 : w2.frozen? ⟨w.heap.size, 1, none⟩ = false := (by rw [hw2]; exact f1); have p2 : w2.frozen? ⟨w.heap.size, 2, none⟩ = false := (by rw [hw2]; exact f2); have q0 : w2.cell? ⟨g, j, none⟩ = some (.int .i64 (v : Nat)) := (by rw [hw2]; exact hc); have hT2 : w.heap.size < w2.heap.size := (by rw [hw2]; exact hT); have hB2 : Below w.heap.size w w2 := (by rw [hw2]; exact bdrewN hB _); clear hw2 d0 d1 d2 f0 f1 f2 hc HR)
              | fail)
            go_roundw
            case rel => exact ⟨j, a - v, by go_num, HN1, g0, by rw [HV.out]; exact g1, by rw [HV.out]; exact g2, p0, p1, p2, hT2, hB2⟩
            case measure => simp [intOf]
        · have HX : Hid (lzq.low (lzq.best l a (min 255 a)) = lzq.low (lzq.best l a k)) := Lib.hid (by rw [lzq.seen_end HS.out h3 (.inr (by rw [Nat.add_sub_cancel]; omega))])
          clear HS hcv
          clear HC HM HLE
          generalize (lzq.poss l (lzq.key l a) a).getD j 0 = v at *
          have hdi : ¬ (a : Int) - (v : Int) ≤ 255 := by omega
          generalize lzq.low (lzq.best l a k) = s at *
          go_wp2
          refine bodyPost_ret (v := .agg #[.int .u8 0, .int .i64 (s.1 : Nat), .int .i64 (s.2 : Nat)]) (by first | (simp [results, Try.results17, go_sem]; done) | (simp [results, Try.results17, go_sem, *]; done)) rfl ⟨by rw [HX.out], (by repeat (first | (with_reducible exact Below.refl _ _) | (with_reducible assumption) | (with_reducible refine bset ?_ ?_ _) | (with_reducible refine balloc ?_ _) | (with_reducible refine Below.drew ?_) | (with_reducible refine bdrewN ?_ _) | (with_reducible refine bnext ?_ (by with_reducible assumption)) | exact Nat.le_refl _ | (simp; done) | omega | (simp; omega)))⟩
  · have h3i : (l.length : Int) < (a : Int) + 3 := by omega
    have HX : Hid (lzq.low (lzq.best l a (min 255 a)) = (0, 0)) := Lib.hid (by rw [lzq.best_near_end (by omega)]; rfl)
    rw [HX.out]
    go_wp2
    exact bodyPost_ret (v := .agg #[.int .u8 0, .int .i64 0, .int .i64 0]) (by first | (simp [results, Try.results17, go_sem]; done) | (simp [results, Try.results17, go_sem, *]; done)) rfl ⟨rfl, (by repeat (first | (with_reducible exact Below.refl _ _) | (with_reducible assumption) | (with_reducible refine bset ?_ ?_ _) | (with_reducible refine balloc ?_ _) | (with_reducible refine Below.drew ?_) | (with_reducible refine bdrewN ?_ _) | (with_reducible refine bnext ?_ (by with_reducible assumption)) | exact Nat.le_refl _ | (simp; done) | omega | (simp; omega)))⟩
end Go.Proofs.Ytkbmpppendelcaa
