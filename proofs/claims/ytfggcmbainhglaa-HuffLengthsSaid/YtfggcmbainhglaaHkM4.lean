/- Texts in one: HeapS, Huff1, Huff4, HeapK. No condition. -/
import Derived.Test.YtfggcmbainhglaaHkM3
import Derived.Test.YtfggcmbainhglaaHkM2
import Derived.Test.YtfggcmbainhglaaHkM1
import Derived.Laws.ShiftsVarLaws
import Derived.IntWalk
namespace Go.Proofs.Ytfggcmbainhglaa
open Go.RowKit
set_option linter.unusedSimpArgs false

theorem hl.best_posv (counts : List Int) : hl.best counts = if (hl.posv counts counts.length).length = 1 then (hl.posv counts counts.length).getD 0 0 else hl.hc (hl.posv counts counts.length) := by
  have e : hl.posv counts counts.length = (hl.pos counts).map fun s => counts.getD s 0 := rfl
  rw [e]
  by_cases h : (hl.pos counts).length = 1
  · obtain ⟨s, hs⟩ := List.length_eq_one_iff.1 h
    rw [hl.best_one hs, hs]
    rfl
  · rw [hl.best_not h, if_neg (by rw [List.length_map]; exact h)]
theorem ho.int_at {w : World} {B n c : Nat} {A : Option Addr} {l : List Int} (h : Own w B 3 1 A n c (ho.iv l)) {j : Nat} (hj : j < l.length) : ∃ g, A = some ⟨g, 0, none⟩ ∧ B ≤ g ∧ g < w.heap.size ∧ w.cell? ⟨g, j, none⟩ = some (.int .i64 (l.getD j 0)) :=
  h.cell (by unfold ho.iv; rw [List.getElem?_map, List.getElem?_eq_getElem hj, List.getD_eq_getElem?_getD, List.getElem?_eq_getElem hj]; rfl)
theorem hl.posv_len (counts : List Int) (k : Nat) : (hl.posv counts k).length ≤ k := by
  unfold hl.posv hl.posTo
  rw [List.length_map]
  refine Nat.le_trans (List.length_filter_le ..) ?_
  rw [List.length_range]
  exact Nat.le_refl _
set_option maxRecDepth 100000 in
set_option maxHeartbeats 2000000 in
theorem ref_HuffCost (counts : List Int) (A0 : Option Addr) (c0 : Nat) (w : World) (h0 : SlRep Rep.int w (· < w.heap.size) counts A0 c0) (hn : counts.length ≤ 64) (hr : ∀ n ∈ counts, 0 ≤ n ∧ n ≤ 1048576) :
    Calls Try.prog 8 #[.slice A0 counts.length c0] w fun e w' => e = .returned (.int .i64 (hl.best counts)) ∧ Below w.heap.size w w' := by
  have HL := Lib.hid h0
  have HB : Hid (hl.best counts = if (hl.posv counts counts.length).length = 1 then (hl.posv counts counts.length).getD 0 0 else hl.hc (hl.posv counts counts.length)) := Lib.hid (hl.best_posv counts)
  have HPV : Hid (∀ x ∈ hl.posv counts counts.length, 0 ≤ x) := Lib.hid (fun x hx => by
    unfold hl.posv at hx
    obtain ⟨s, hs, rfl⟩ := List.mem_map.1 hx
    have := (hl.mem_pos.1 hs).2
    omega)
  have HSM : Hid ((hl.posv counts counts.length).sum ≤ 67108864) := Lib.hid (by
    have h1 := hl.sum_le (l := hl.posv counts counts.length) (b := 1048576) (fun x hx => by
      unfold hl.posv at hx
      obtain ⟨s, _, rfl⟩ := List.mem_map.1 hx
      exact hl.getD_le (by omega) (fun n hn => (hr n hn).2) s)
    have h2 := hl.posv_len counts counts.length
    omega)
  obtain ⟨N, hN⟩ : ∃ N, counts.length = N := ⟨_, rfl⟩
  have HN := Lib.hid hN
  rw [hN] at HB HPV HSM hn ⊢
  clear h0 hr hN
  go_enter Try.func8, Try.ntmps8
  go_wp2
  go_loopw [3, 10] (fun s3 i wr => ∃ (k : Nat) (A : Option Addr) (c : Nat), k ≤ N ∧ i = .int .i64 (k : Int) ∧ s3 = .slice A (hl.posv counts k).length c ∧ Hid (Own wr w.heap.size 3 1 A (hl.posv counts k).length c (ho.iv (hl.posv counts k)) ∧ Below w.heap.size w wr)) (fun _ i _ => N - (intOf i).toNat)
  case atStart => exact ⟨0, none, 0, by omega, rfl, rfl, Lib.hid ⟨Own.nil _ _ _ _, bself _⟩⟩
  case round =>
    obtain ⟨k, A, c, hk, rfl, rfl, HK⟩ := hrel
    rename World => wr
    obtain ⟨k4, k5⟩ := HK.out
    have hpl := hl.posv_len counts k
    by_cases hlt : k < N
    · obtain ⟨bA, oA, rfl, hbA, hc1⟩ := int_at (HL.out.below k5) (by have := HN.out; omega : k < counts.length)
      have hlt' : (k : Int) < (N : Int) := by omega
      have hbr : bA < wr.heap.size := Nat.lt_of_lt_of_le hbA k5.size
      by_cases hpos : 0 < counts.getD k 0
      · have HPS : Hid (hl.posv counts (k + 1) = hl.posv counts k ++ [counts.getD k 0]) := Lib.hid (by rw [hl.posv_succ, if_pos hpos])
        have K4 := Lib.hid k4
        have K5 := Lib.hid k5
        generalize hl.posv counts k = xs at *
        generalize counts.getD k 0 = y at *
        clear k4 k5 HK
        go_wp2_with (first
          | (at_builtin; refine wp_app _ rfl _ _ _ rfl ho.elemI w.heap.size A xs.length c _ rfl (K4.out.alloc _) _ 1 1 [.int .i64 y] rfl rfl (Cells.newAt _ _ _ rfl) (by simp [Value.oneCell']) (by omega) (by unfold maxLen; omega) (Nat.le_trans K5.out.size (by simp)) ?_; intro A6 c6 w6 hO6 hg6; have HO6 := Lib.hid hO6; have hst6 : Stays wr w6 (fun q => blkOf A = some q) := (Stays.of_below (by exact (by repeat (first | (with_reducible exact Below.refl _ _) | (with_reducible assumption) | (with_reducible refine bset ?_ ?_ _) | (with_reducible refine balloc ?_ _) | (with_reducible refine Below.drew ?_) | (with_reducible refine bdrewN ?_ _) | (with_reducible refine bnext ?_ (by with_reducible assumption)) | exact Nat.le_refl _ | (simp; done) | omega | (simp; omega)))) _).comp (Stays.grew hg6); have HB6 : Hid (Below w.heap.size w w6) := Lib.hid (K5.out.trans (hst6.below K5.out.size (fun q hq => (K4.out.lt q hq).1))); clear hO6 hg6 hst6)
          | fail)
        go_roundw
        case rel =>
          have e9 : (xs ++ [y]).length = xs.length + 1 := by rw [List.length_append]; rfl
          refine ⟨k + 1, A6, c6, by omega, by go_num, ?_, Lib.hid ⟨?_, HB6.out⟩⟩
          · rw [HPS.out, e9]
          · rw [HPS.out, e9]
            have := HO6.out
            unfold ho.iv at this ⊢
            rw [List.map_append]
            exact this
        case measure => simp [intOf]; omega
      · have HPS : Hid (hl.posv counts (k + 1) = hl.posv counts k) := Lib.hid (by rw [hl.posv_succ, if_neg hpos, List.append_nil])
        have HK2 := Lib.hid (And.intro k4 k5)
        generalize counts.getD k 0 = y at *
        clear k4 k5 HK
        go_wp2
        go_roundw
        case rel => exact ⟨k + 1, A, c, by omega, by go_num, by rw [HPS.out], Lib.hid (by rw [HPS.out]; exact HK2.out)⟩
        case measure => simp [intOf]; omega
    · obtain rfl : k = N := by omega
      have K4 := Lib.hid k4
      have K5 := Lib.hid k5
      clear k4 k5 HK
      obtain ⟨zs, hzs⟩ : ∃ zs, hl.posv counts k = zs := ⟨_, rfl⟩
      rw [hzs] at HB HPV HSM K4 hpl ⊢
      clear hzs
      have hzl : zs.length ≤ 64 := by omega
      by_cases h1 : zs.length = 1
      · obtain ⟨g, rfl, _, lg, a0⟩ := ho.int_at K4.out (j := 0) (by omega)
        have HE : Hid (hl.best counts = zs.getD 0 0) := Lib.hid (by rw [HB.out, if_pos h1])
        obtain ⟨y, rfl⟩ : ∃ y, zs = [y] := List.length_eq_one_iff.1 h1
        simp only [List.getD_cons_zero] at a0
        simp only [List.length_cons, List.length_nil]
        go_wp2
        go_ret
        exact ⟨ret_int (by rw [HE.out]; rfl), K5.out⟩
      · have h1' : ((zs.length : Int) == 1) = false := by simp; omega
        have h1'' : ¬ (zs.length : Int) = 1 := by omega
        have HE : Hid (hl.best counts = hl.hc zs) := Lib.hid (by rw [HB.out, if_neg h1])
        have H0 : Hid ((0 : Int) + hl.hc zs = hl.hc zs ∧ (∀ x ∈ zs, 0 ≤ x) ∧ zs.sum ≤ 67108864 ∧ Own wr w.heap.size 3 1 A zs.length c (ho.iv zs) ∧ Below w.heap.size w wr) := Lib.hid ⟨Int.zero_add _, HPV.out, HSM.out, K4.out, K5.out⟩
        have htot := (hl.hc_bd (S := 67108864) (by omega) HPV.out HSM.out hzl).2
        obtain ⟨tot, ht⟩ : ∃ tot, hl.hc zs = tot := ⟨_, rfl⟩
        rw [ht] at htot HE
        have HT := Lib.hid ht
        clear HB HPV HSM K4 K5 ht
        go_wp2
        go_loopw [3, 6] (fun s3 s6 wx => ∃ (xs : List Int) (A : Option Addr) (c : Nat) (v : Int), s3 = .slice A xs.length c ∧ s6 = .int .i64 v ∧ xs.length ≤ 64 ∧ Hid (v + hl.hc xs = tot ∧ (∀ x ∈ xs, 0 ≤ x) ∧ xs.sum ≤ 67108864 ∧ 0 ≤ v ∧ Own wx w.heap.size 3 1 A xs.length c (ho.iv xs) ∧ Below w.heap.size w wx)) (fun s3 _ _ => match s3 with | .slice _ n _ => n | _ => 0)
        case atStart => exact ⟨zs, A, c, 0, rfl, rfl, hzl, Lib.hid ⟨by rw [HT.out, Int.zero_add], H0.out.2.1, H0.out.2.2.1, Int.le_refl _, H0.out.2.2.2.1, H0.out.2.2.2.2⟩⟩
        case round =>
          obtain ⟨xs, A, c, v, rfl, rfl, hxl, HX⟩ := hrel
          rename World => wx
          obtain ⟨x1, x2, x3, xv, x4, x5⟩ := HX.out
          by_cases h2 : 2 ≤ xs.length
          · have h2' : (1 : Int) < (xs.length : Int) := by omega
            obtain ⟨a, b, r, hab, hhc, hln, hsm, hpo⟩ := hl.round h2
            obtain ⟨hpo1, ha0, hb0⟩ := hpo x2
            obtain ⟨g, rfl, _, lg, _⟩ := ho.int_at x4 (j := 0) (by omega)
            have HSO := Lib.hid (ho.sorted w.heap.size g c xs wx x4 (by omega))
            rw [hab] at HSO
            have hbd := hl.hc_bd (S := 67108864) (by omega) hpo1 (by omega) (by omega)
            have hsum2 : a + b ≤ 67108864 := by
              have h9 := hl.le_sum hpo1 (x := a + b) (by simp)
              omega
            have hw1 : IntKind.i64.wrap (a + b) = a + b := IntWalk.i64_in _ (by omega)
            have hw2 : IntKind.i64.wrap (v + (a + b)) = v + (a + b) := IntWalk.i64_in _ (by omega)
            have hcut := fun W => run_cut_l (P := Try.prog) ho.elemI (some ⟨g, 0, none⟩) xs.length c 2 h2 2 rfl W
            obtain ⟨m, hm⟩ : ∃ m, xs.length = m + 2 := ⟨xs.length - 2, by omega⟩
            have hrm : r.length = m := by simp only [List.length_cons] at hln; omega
            have hsub : xs.length - 2 = m := by omega
            have hm64 : m ≤ 64 := by omega
            have X4 := Lib.hid x4
            have X5 := Lib.hid x5
            have HRS : Hid ((v + (a + b)) + hl.hc ((a + b) :: r) = tot ∧ (∀ x ∈ (a + b) :: r, 0 ≤ x) ∧ ((a + b) :: r).sum ≤ 67108864 ∧ 0 ≤ v + (a + b)) := Lib.hid ⟨by omega, hpo1, by omega, by omega⟩
            rw [hsub] at hcut
            have HRM := Lib.hid hrm
            have HXM := Lib.hid hm
            clear x1 x2 x3 x4 x5 HX hab hhc hln hsm hpo1 hbd hrm hm hsub
            go_upto_region 13 with (first
              | (go_at_call 22; ((with_reducible refine HSO.out.mono ?_); rintro e w4 ⟨rfl, h4, s4⟩; have H4 := Lib.hid h4; have S4 := Lib.hid s4; clear h4 s4))
              | fail)
            have hs04 : Below w.heap.size w w4 := X5.out.trans (S4.out.below X5.out.size (fun q hq => by subst hq; exact (X4.out.lt q rfl).1))
            have HB4 := Lib.hid hs04
            obtain ⟨_, e9, _, _, a0⟩ := H4.out.cell (j := 0) (u := .int .i64 a) rfl
            simp only [Option.some.injEq, Addr.mk.injEq, and_true] at e9
            subst e9
            obtain ⟨_, e9, _, _, a1⟩ := H4.out.cell (j := 1) (u := .int .i64 b) rfl
            simp only [Option.some.injEq, Addr.mk.injEq, and_true] at e9
            subst e9
            have lg4 : g < w4.heap.size := Nat.lt_of_lt_of_le lg S4.out.size
            have h2n : (1 : Int) < (xs.length : Int) := by omega
            have h0n : (0 : Int) < (xs.length : Int) := by omega
            clear hs04
            go_quiet (fail)
            have HBK : Hid (∀ wy, Below w4.heap.size w4 wy → Cells wy (cutA (some ⟨g, 0, none⟩) c 2 1) (r.map (Value.int .i64))) := Lib.hid (fun wy hb => by
              have h9 := (H4.out.next hb).back1 (k := 2) h2
              simpa [ho.iv] using h9)
            generalize hw5 : World.drewN w4 _ = w5
            have hb45 : Below w4.heap.size w4 w5 := by rw [← hw5]; exact bdrewN (bself _) _
            have HB5 : Hid (Below w.heap.size w w5) := Lib.hid (bnext HB4.out hb45)
            have HB45 := Lib.hid hb45
            have HLT : Hid (Own (w5.alloc (.cells #[.int .i64 (a + b)] 3)) w.heap.size 3 1 (some ⟨w5.heap.size, 0, none⟩) 1 1 [.int .i64 (a + b)]) := Lib.hid (Own.lit w5 w.heap.size _ 1 1 [.int .i64 (a + b)] HB5.out.size rfl (by decide))
            clear hw5 hb45 a0 a1 lg4 h0n
            go_wp2_with (first
              | (at_builtin; refine wp_app _ rfl _ _ _ rfl ho.elemI w.heap.size _ 1 1 [.int .i64 (a + b)] rfl HLT.out _ m _ (r.map (Value.int .i64)) rfl (by rw [List.length_map, HRM.out, Nat.mul_one]) (HBK.out _ (bnext HB45.out (balloc (bself w5) _))) (by intro u hu; obtain ⟨_, _, rfl⟩ := List.mem_map.1 hu; rfl) (by omega) (by unfold maxLen; omega) (Nat.le_trans HB5.out.size (by simp)) ?_; intro A6 c6 w6 hO6 hg6; have HO6 := Lib.hid hO6; have hst6 : Stays w5 w6 (fun q => q = w5.heap.size) := (Stays.of_below (balloc (bself w5) _) _).comp ((Stays.grew hg6).mono fun q _ e => by (have e' : w5.heap.size = q := by simpa [blkOf] using e); omega); have HB6 : Hid (Below w.heap.size w w6) := Lib.hid (HB5.out.trans (hst6.below HB5.out.size (fun q hq => by rw [hq]; exact HB5.out.size))); clear hO6 hg6 hst6)
              | fail)
            go_roundw
            case rel =>
              have e9 : ((a + b) :: r).length = 1 + m := by rw [List.length_cons, HRM.out]; omega
              refine ⟨(a + b) :: r, A6, c6, v + (a + b), by rw [e9], rfl, by have := HXM.out; omega, Lib.hid ⟨HRS.out.1, HRS.out.2.1, HRS.out.2.2.1, HRS.out.2.2.2, ?_, HB6.out⟩⟩
              rw [e9]
              exact HO6.out
            case measure => have := HXM.out; simp only; omega
          · have h2' : ¬ (1 : Int) < (xs.length : Int) := by omega
            have HVE : Hid (tot = v) := Lib.hid (by rw [← x1, hl.hc_few (by omega)]; omega)
            have X5 := Lib.hid x5
            clear x1 x2 x3 x4 x5 HX
            go_wp2
            go_ret
            exact ⟨ret_int (by rw [HE.out, HVE.out]), X5.out⟩
end Go.Proofs.Ytfggcmbainhglaa
namespace Go.Proofs.Ytfggcmbainhglaa
open Go.RowKit
set_option linter.unusedSimpArgs false


theorem hf.shl_part {n : Int} (h1 : 0 < n) (h2 : n ≤ 40) : ((hf.part n : Nat) : Int) = 2 ^ (40 - n).toNat := by
  unfold hf.part
  rw [show 40 - n.toNat = (40 - n).toNat by omega]
  push_cast
  rfl
set_option maxHeartbeats 1000000 in
theorem huff_may (l : List Int) (A : Option Addr) (c : Nat) (S : Nat → Prop) (w : World) (hl : SlRep Rep.int w S l A c) (hn : l.length ≤ 9223372036854775807) :
    Calls Try.prog 26 #[.slice A l.length c] w fun e w' => e = .returned (.bool (hf.may l)) ∧ w = w' := by
  have HL := Lib.hid hl
  clear hl
  go_enter Try.func26, Try.ntmps26
  go_wp2
  go_loop [3, 8] (fun v i => ∃ (k : Nat) (x : Int), k ≤ l.length ∧ i = .int .i64 k ∧ v = .int .i64 x ∧ Hid (hf.bound l k ∧ (l.length ≤ 64 → x = hf.sumTo l k))) (fun _ i => l.length - (intOf i).toNat)
  case atStart => exact ⟨0, 0, by omega, rfl, rfl, Lib.hid ⟨fun j hj => by omega, fun _ => rfl⟩⟩
  case round =>
    obtain ⟨k, x, hk, rfl, rfl, HJ⟩ := hrel
    by_cases hlt : k < l.length
    · obtain ⟨b, o, rfl, _, hc1⟩ := int_at HL.out hlt
      have hlt' : (k : Int) < (l.length : Int) := by omega
      by_cases h1 : l.getD k 0 < 0
      · have hF : Hid (hf.may l = false) := Lib.hid (by
          cases hm : hf.may l
          · rfl
          · have := ((hf.fits_iff l).1 (hf.may_iff.1 hm)).2.1 k hlt; omega)
        clear HJ
        generalize l.getD k 0 = y at *
        go_wp2
        go_ret
        rw [hF.out]; exact ⟨rfl, rfl⟩
      · by_cases h2 : 40 < l.getD k 0
        · have hF : Hid (hf.may l = false) := Lib.hid (by
            cases hm : hf.may l
            · rfl
            · have := ((hf.fits_iff l).1 (hf.may_iff.1 hm)).2.1 k hlt; omega)
          clear HJ
          generalize l.getD k 0 = y at *
          go_wp2
          go_ret
          rw [hF.out]; exact ⟨rfl, rfl⟩
        · have hb1 : hf.bound l (k + 1) := fun j hj => by
            by_cases e : j = k
            · subst e; omega
            · exact HJ.out.1 j (by omega)
          by_cases h3 : 0 < l.getD k 0
          · obtain ⟨v, hv⟩ : ∃ v, Hid (v = wrap64 (x + wrap64 (2 ^ (40 - l.getD k 0).toNat))) := ⟨_, Lib.hid rfl⟩
            have HN : Hid (hf.bound l (k + 1) ∧ (l.length ≤ 64 → v = hf.sumTo l (k + 1))) := Lib.hid ⟨hb1, fun hl => by
              have e := HJ.out.2 hl
              have b1 := hf.sumTo_le l k
              have b2 := hf.part_le (l.getD k 0)
              rw [hv.out, hf.sumTo_succ, if_pos h3, ← hf.shl_part h3 (by omega), IntWalk.wrap64_in ((hf.part (l.getD k 0) : Nat) : Int) (by omega), e, IntWalk.wrap64_in _ (by omega)]
              push_cast
              rfl⟩
            clear HJ hb1
            generalize l.getD k 0 = y at *
            have hv2 := hv.out
            go_wp2
            go_roundw
            case rel => exact ⟨k + 1, v, by omega, by go_num, by rw [hv2], HN⟩
            case measure => simp [intOf]; omega
          · have HN : Hid (hf.bound l (k + 1) ∧ (l.length ≤ 64 → x = hf.sumTo l (k + 1))) := Lib.hid ⟨hb1, fun hl => by
              rw [hf.sumTo_succ, if_neg h3]; exact HJ.out.2 hl⟩
            clear HJ hb1
            generalize l.getD k 0 = y at *
            go_wp2
            go_roundw
            case rel => exact ⟨k + 1, x, by omega, by go_num, rfl, HN⟩
            case measure => simp [intOf]; omega
    · have hkl : k = l.length := by omega
      subst hkl
      by_cases h1 : l.length ≤ 64
      · have e := HJ.out.2 h1
        by_cases h2 : hf.sumTo l l.length ≤ 1099511627776
        · have hF : Hid (hf.may l = true) := Lib.hid (hf.may_iff.2 ((hf.fits_iff l).2 ⟨h1, HJ.out.1, h2⟩))
          have h1' : (l.length : Int) ≤ 64 := by omega
          have h2' : x ≤ 1099511627776 := by omega
          clear HJ e
          go_wp2
          go_ret
          rw [hF.out]; exact ⟨rfl, rfl⟩
        · have hF : Hid (hf.may l = false) := Lib.hid (by
            cases hm : hf.may l
            · rfl
            · exact absurd ((hf.fits_iff l).1 (hf.may_iff.1 hm)).2.2 h2)
          have h1' : (l.length : Int) ≤ 64 := by omega
          have h2' : ¬ (x ≤ 1099511627776) := by omega
          clear HJ e
          go_wp2
          go_ret
          rw [hF.out]; exact ⟨rfl, rfl⟩
      · have hF : Hid (hf.may l = false) := Lib.hid (by
          cases hm : hf.may l
          · rfl
          · exact absurd ((hf.fits_iff l).1 (hf.may_iff.1 hm)).1 h1)
        have h1' : ¬ ((l.length : Int) ≤ 64) := by omega
        clear HJ
        go_wp2
        go_ret
        rw [hF.out]; exact ⟨rfl, rfl⟩
end Go.Proofs.Ytfggcmbainhglaa
namespace Go.Proofs.Ytfggcmbainhglaa
open Go.RowKit
set_option linter.unusedSimpArgs false

set_option maxHeartbeats 1000000 in
theorem ref_HuffMay (l : List Int) (A : Option Addr) (c : Nat) (S : Nat → Prop) (w : World) (hl : SlRep Rep.int w S l A c) (hn : l.length ≤ 9223372036854775807) :
    Calls Try.prog 7 #[.slice A l.length c] w fun e w' => e = .returned (.bool (hf.may l)) ∧ w = w' := by
  have HL := Lib.hid hl
  clear hl
  by_cases h64 : l.length ≤ 64
  · have h64' : (l.length : Int) ≤ 64 := by omega
    go_enter Try.func7, Try.ntmps7
    go_wp2
    go_loop [3, 11] (fun v i => ∃ (k : Nat) (x : Int), k ≤ l.length ∧ i = .int .i64 k ∧ v = .int .i64 x ∧ Hid (hf.bound l k ∧ x = 1099511627776 - (hf.sumTo l k : Int))) (fun _ i => l.length - (intOf i).toNat)
    case atStart => exact ⟨0, 1099511627776, by omega, rfl, rfl, Lib.hid ⟨fun j hj => by omega, rfl⟩⟩
    case round =>
      obtain ⟨k, x, hk, rfl, rfl, HJ⟩ := hrel
      by_cases hlt : k < l.length
      · obtain ⟨b, o, rfl, _, hc1⟩ := int_at HL.out hlt
        have hlt' : (k : Int) < (l.length : Int) := by omega
        by_cases h1 : l.getD k 0 < 0
        · have hF : Hid (hf.may l = false) := Lib.hid (by
            cases hm : hf.may l
            · rfl
            · have := ((hf.fits_iff l).1 (hf.may_iff.1 hm)).2.1 k hlt; omega)
          clear HJ
          generalize l.getD k 0 = y at *
          go_wp2
          go_ret
          rw [hF.out]; exact ⟨rfl, rfl⟩
        · by_cases h2 : 40 < l.getD k 0
          · have hF : Hid (hf.may l = false) := Lib.hid (by
              cases hm : hf.may l
              · rfl
              · have := ((hf.fits_iff l).1 (hf.may_iff.1 hm)).2.1 k hlt; omega)
            clear HJ
            generalize l.getD k 0 = y at *
            go_wp2
            go_ret
            rw [hF.out]; exact ⟨rfl, rfl⟩
          · have hb1 : hf.bound l (k + 1) := fun j hj => by
              by_cases e : j = k
              · subst e; omega
              · exact HJ.out.1 j (by omega)
            have e := HJ.out.2
            have b1 := hf.sumTo_le l k
            by_cases h3 : 0 < l.getD k 0
            · obtain ⟨v, hv⟩ : ∃ v, Hid (v = wrap64 (x - wrap64 (2 ^ (40 - l.getD k 0).toNat))) := ⟨_, Lib.hid rfl⟩
              have HN : Hid (hf.bound l (k + 1) ∧ v = 1099511627776 - (hf.sumTo l (k + 1) : Int)) := Lib.hid ⟨hb1, by
                have b2 := hf.part_le (l.getD k 0)
                rw [hv.out, hf.sumTo_succ, if_pos h3, ← hf.shl_part h3 (by omega), IntWalk.wrap64_in ((hf.part (l.getD k 0) : Nat) : Int) (by omega), e, IntWalk.wrap64_in _ (by omega)]
                push_cast
                omega⟩
              clear HJ hb1 e b1
              generalize l.getD k 0 = y at *
              have hv2 := hv.out
              go_wp2
              go_roundw
              case rel => exact ⟨k + 1, v, by omega, by go_num, by rw [hv2], HN⟩
              case measure => simp [intOf]; omega
            · have HN : Hid (hf.bound l (k + 1) ∧ x = 1099511627776 - (hf.sumTo l (k + 1) : Int)) := Lib.hid ⟨hb1, by
                rw [hf.sumTo_succ, if_neg h3]; exact HJ.out.2⟩
              clear HJ hb1 e b1
              generalize l.getD k 0 = y at *
              go_wp2
              go_roundw
              case rel => exact ⟨k + 1, x, by omega, by go_num, rfl, HN⟩
              case measure => simp [intOf]; omega
      · have hkl : k = l.length := by omega
        subst hkl
        have e := HJ.out.2
        by_cases h2 : hf.sumTo l l.length ≤ 1099511627776
        · have hF : Hid (hf.may l = true) := Lib.hid (hf.may_iff.2 ((hf.fits_iff l).2 ⟨h64, HJ.out.1, h2⟩))
          have h2' : 0 ≤ x := by omega
          clear HJ e
          go_wp2
          go_ret
          rw [hF.out]; exact ⟨rfl, rfl⟩
        · have hF : Hid (hf.may l = false) := Lib.hid (by
            cases hm : hf.may l
            · rfl
            · exact absurd ((hf.fits_iff l).1 (hf.may_iff.1 hm)).2.2 h2)
          have h2' : ¬ (0 ≤ x) := by omega
          clear HJ e
          go_wp2
          go_ret
          rw [hF.out]; exact ⟨rfl, rfl⟩
  · have hF : Hid (hf.may l = false) := Lib.hid (by
      cases hm : hf.may l
      · rfl
      · exact absurd ((hf.fits_iff l).1 (hf.may_iff.1 hm)).1 h64)
    have h64' : ¬ ((l.length : Int) ≤ 64) := by omega
    go_enter Try.func7, Try.ntmps7
    go_wp2
    go_ret
    rw [hF.out]; exact ⟨rfl, rfl⟩
end Go.Proofs.Ytfggcmbainhglaa
namespace Go.Proofs.Ytfggcmbainhglaa
open Go.RowKit
set_option linter.unusedSimpArgs false

theorem hl.dot_take : ∀ (l m : List Int) (k : Nat), k < l.length → k < m.length → hl.dot (l.take (k + 1)) m = hl.dot (l.take k) m + l.getD k 0 * m.getD k 0
  | [], _, _, h, _ => by simp at h
  | _ :: _, [], _, _, h => by simp at h
  | x :: l, y :: m, 0, _, _ => by
    show x * y + hl.dot (l.take 0) m = 0 + x * y
    have : hl.dot (l.take 0) m = 0 := by cases m <;> rfl
    rw [this]
    omega
  | x :: l, y :: m, k + 1, h1, h2 => by
    show x * y + hl.dot (l.take (k + 1)) m = (x * y + hl.dot (l.take k) m) + l.getD k 0 * m.getD k 0
    rw [hl.dot_take l m k (by simpa using h1) (by simpa using h2)]
    omega
theorem ho.int_ {w : World} {B n c : Nat} {e : TypeId} {A : Option Addr} {xs : List Int} (h : Own w B e 1 A n c (ho.iv xs)) : n = xs.length ∧ SlRep Rep.int w (fun k => B ≤ k ∧ k < w.heap.size) xs A c := by
  have h1 : ho.iv xs = xs.flatMap (fun x => [Value.int .i64 x]) := by unfold ho.iv; rw [List.map_eq_flatMap]
  exact Own.flat (R := Rep.int) (fun x => [Value.int .i64 x]) rfl (fun _ _ => rfl) (by decide) (by rw [← h1]; exact h)
theorem hl.dot_bd (l m : List Int) (hl_ : ∀ i, 0 ≤ l.getD i 0 ∧ l.getD i 0 ≤ 40) (hm : ∀ i, 0 ≤ m.getD i 0 ∧ m.getD i 0 ≤ 1048576) : ∀ k, k ≤ l.length → k ≤ m.length → 0 ≤ hl.dot (l.take k) m ∧ hl.dot (l.take k) m ≤ k * 41943040
  | 0, _, _ => by
    have : hl.dot (l.take 0) m = 0 := by cases m <;> rfl
    rw [this]
    omega
  | k + 1, h1, h2 => by
    have ih := hl.dot_bd l m hl_ hm k (by omega) (by omega)
    rw [hl.dot_take l m k (by omega) (by omega)]
    have a := hl_ k
    have b := hm k
    have p0 : 0 ≤ l.getD k 0 * m.getD k 0 := Int.mul_nonneg a.1 b.1
    have p1 : l.getD k 0 * m.getD k 0 ≤ 40 * 1048576 := Int.mul_le_mul a.2 b.2 b.1 (by omega)
    omega
theorem hl.fault_zero {l : List Int} (h : hl.fault l = 0) : l.length ≤ 64 ∧ ∀ n ∈ l, 0 ≤ n ∧ n ≤ 1048576 := by
  unfold hl.fault at h
  split at h
  · cases h
  · split at h
    · cases h
    · next h1 h2 => exact ⟨by omega, hl.bad_not (by cases hb : hl.bad l; rfl; exact absurd hb h2)⟩
set_option maxRecDepth 100000 in
set_option maxHeartbeats 2000000 in
theorem lawHuffLengths_walk {w : World} (counts : List Int) (A : Option Addr) (c : Nat) (h0 : SlRep Rep.int w (· < w.heap.size) counts A c) (hok : AllOk 8 IntOk counts) :
    Calls Try.prog 3 #[.slice A counts.length c] w fun e w' => e = .returned (.bool true) ∧ Below w.heap.size w w' := by
  have hn : counts.length ≤ 9223372036854775807 := by have := hok.2; omega
  have HL := Lib.hid h0
  have HLE := Lib.hid (huff_Lengths counts A c w h0 hn)
  have HFT := Lib.hid (fun (wx : World) (hb : Below w.heap.size w wx) => ref_HuffFault counts A c _ wx (h0.next hb) hn)
  clear h0 hok
  by_cases hf0 : hl.fault counts = 0
  · obtain ⟨h64, hrg⟩ := hl.fault_zero hf0
    have HCO := Lib.hid (fun (wx : World) (hb : Below w.heap.size w wx) => ref_HuffCost counts A c wx (HL.out.next hb) h64 hrg)
    have HM : Hid (∀ i, 0 ≤ counts.getD i 0 ∧ counts.getD i 0 ≤ 1048576) := Lib.hid (fun i => by
      rw [List.getD_eq_getElem?_getD]
      cases e : counts[i]? with
      | none => exact ⟨Int.le_refl _, by show (0 : Int) ≤ 1048576; omega⟩
      | some x => exact hrg x (List.mem_of_getElem? e))
    rw [hf0] at HFT
    have HLE2 : Hid (Calls Try.prog 5 #[.slice A counts.length c] w fun e w' => ∃ g out, e = .returned (.tuple #[.slice (some ⟨g, 0, none⟩) counts.length counts.length, .int .i64 0]) ∧ hl.Good counts out (hl.best counts) ∧ Own w' w.heap.size 3 1 (some ⟨g, 0, none⟩) counts.length counts.length (ho.iv out) ∧ Below w.heap.size w w') := Lib.hid (HLE.out.mono (by
      rintro e w' ⟨hb, h⟩
      rw [if_neg (by rw [hf0]; decide)] at h
      obtain ⟨g, out, h1, h2, h3⟩ := h
      exact ⟨g, out, h1, h2, h3, hb⟩))
    obtain ⟨N, hN⟩ : ∃ N, counts.length = N := ⟨_, rfl⟩
    have HNE := Lib.hid hN
    rw [hN] at HLE2 HFT HCO h64 ⊢
    clear HLE hf0 hn hrg
    go_enter Try.func3, Try.ntmps3
    go_upto_region 2 with (first
      | (go_at_call 5; ((with_reducible refine HLE2.out.mono ?_); rintro e w1 ⟨g, out, rfl, hg, ho1, hb1⟩; have HG := Lib.hid hg; have HO1 := Lib.hid ho1; have HB1 := Lib.hid hb1; clear hg ho1 hb1))
      | fail)
    have HO2 : Hid (SlRep Rep.int w1 (fun k => w.heap.size ≤ k ∧ k < w1.heap.size) out (some ⟨g, 0, none⟩) N) := Lib.hid (ho.int_ HO1.out).2
    have hol : out.length = N := by rw [HG.out.len, HNE.out]
    have HMY : Hid (Calls Try.prog 7 #[.slice (some ⟨g, 0, none⟩) N N] w1 fun e w' => e = .returned (.bool true) ∧ w1 = w') := Lib.hid (by
      have h9 := ref_HuffMay out (some ⟨g, 0, none⟩) N _ w1 HO2.out (by omega)
      rw [hol, hf.may_iff.2 HG.out.fits] at h9
      exact h9)
    have HOB : Hid (∀ i, 0 ≤ out.getD i 0 ∧ out.getD i 0 ≤ 40) := Lib.hid (fun i => by
      rw [List.getD_eq_getElem?_getD]
      cases e : out[i]? with
      | none => exact ⟨Int.le_refl _, by show (0 : Int) ≤ 40; omega⟩
      | some x => exact HG.out.fits.2.1 x (List.mem_of_getElem? e))
    have HL1 := Lib.hid (HL.out.next HB1.out)
    have HOL := Lib.hid hol
    have hN63 : N ≤ 9223372036854775807 := by omega
    have hNN : ((N : Int) != (N : Int)) = false := by simp
    clear hol hN
    go_upto_region 9 with (first
      | (go_at_call 6; ((with_reducible refine (HFT.out _ HB1.out).mono ?_); rintro e _ ⟨rfl, rfl⟩))
      | (go_at_call 7; ((with_reducible refine HMY.out.mono ?_); rintro e _ ⟨rfl, rfl⟩))
      | fail)
    go_loopw [6, 7] (fun s6 s7 wr => ∃ (k : Nat), k ≤ N ∧ s6 = .int .i64 (hl.dot (out.take k) counts) ∧ s7 = .int .i64 (k : Int) ∧ Hid (Below w1.heap.size w1 wr)) (fun _ s7 _ => N - (intOf s7).toNat)
    case atStart => exact ⟨0, by omega, by cases counts <;> rfl, rfl, Lib.hid (bself _)⟩
    case round =>
      obtain ⟨k, hk, rfl, rfl, HB⟩ := hrel
      rename World => wr
      by_cases hlt : k < N
      · have hlt' : (k : Int) < (N : Int) := by omega
        obtain ⟨b1, o1, e1, hb1, c1⟩ := int_at (HO2.out.keep (S' := (· < wr.heap.size)) fun q hq => ⟨Nat.lt_of_lt_of_le hq.2 HB.out.size, HB.out.block q hq.2⟩) (by have := HOL.out; omega : k < out.length)
        obtain ⟨b2, o2, rfl, hb2, c2⟩ := int_at (HL1.out.next HB.out) (by have := HNE.out; omega : k < counts.length)
        simp only [Option.some.injEq, Addr.mk.injEq, and_true] at e1
        obtain ⟨rfl, rfl⟩ := e1
        simp only [Nat.zero_add] at c1
        have hof := HG.out.of k (by have := HNE.out; omega)
        have hdt := hl.dot_take out counts k (by have := HOL.out; omega) (by have := HNE.out; omega)
        have hdb := hl.dot_bd out counts HOB.out HM.out k (by have := HOL.out; omega) (by have := HNE.out; omega)
        have ha := HOB.out k
        have hb := HM.out k
        have p0 : 0 ≤ out.getD k 0 * counts.getD k 0 := Int.mul_nonneg ha.1 hb.1
        have p1 : out.getD k 0 * counts.getD k 0 ≤ 40 * 1048576 := Int.mul_le_mul ha.2 hb.2 hb.1 (by omega)
        have HDT := Lib.hid hdt
        generalize hl.dot (out.take k) counts = v at *
        generalize out.getD k 0 = x at *
        generalize counts.getD k 0 = y at *
        obtain ⟨xy, hxy⟩ : ∃ xy, x * y = xy := ⟨_, rfl⟩
        rw [hxy] at p0 p1 HDT
        have hw1 : IntKind.i64.wrap (x * y) = xy := by rw [hxy]; exact IntWalk.i64_in _ (by omega)
        have hw2 : IntKind.i64.wrap (v + xy) = v + xy := IntWalk.i64_in _ (by omega)
        have hlt0 : 0 + k < N := by omega
        clear hdt hxy
        have hbb : (decide (0 < x) != decide (0 < y)) = false := by
          by_cases hx0 : 0 < x
          · rw [decide_eq_true hx0, decide_eq_true (hof.1 hx0)]; rfl
          · rw [decide_eq_false hx0, decide_eq_false (fun e => hx0 (hof.2 e))]; rfl
        obtain ⟨bx, hbx⟩ : ∃ bx, decide (0 < x) = bx := ⟨_, rfl⟩
        obtain ⟨by_, hby⟩ : ∃ by_, decide (0 < y) = by_ := ⟨_, rfl⟩
        rw [hbx, hby] at hbb
        obtain rfl : bx = by_ := by cases bx <;> cases by_ <;> first | rfl | cases hbb
        clear hof hbb
        go_upto_region 11 with (fail)
        go_quiet (fail)
        go_upto_region 13 with (fail)
        go_quiet (fail)
        go_wp2
        go_roundw
        case rel => exact ⟨k + 1, by omega, by rw [HDT.out], by go_num, Lib.hid (bnext HB.out (by exact (by repeat (first | (with_reducible exact Below.refl _ _) | (with_reducible assumption) | (with_reducible refine bset ?_ ?_ _) | (with_reducible refine balloc ?_ _) | (with_reducible refine Below.drew ?_) | (with_reducible refine bdrewN ?_ _) | (with_reducible refine bnext ?_ (by with_reducible assumption)) | exact Nat.le_refl _ | (simp; done) | omega | (simp; omega)))))⟩
        case measure => simp [intOf]; omega
      · obtain rfl : k = N := by omega
        have HDO : Hid (hl.dot (out.take k) counts = hl.best counts) := Lib.hid (by
          rw [← HG.out.cost, show out.take k = out by rw [← HOL.out]; exact List.take_length])
        rw [HDO.out]
        have hbq : (hl.best counts == hl.best counts) = true := by simp
        have HCX := Lib.hid (HCO.out wr (bnext HB1.out HB.out))
        clear HDO
        generalize hl.best counts = bst at *
        go_wp2_with (first
          | (go_at_call 8; ((with_reducible refine HCX.out.mono ?_); rintro e w9 ⟨rfl, hb9⟩; have HB9 := Lib.hid hb9; clear hb9))
          | fail)
        go_ret
        exact ⟨rfl, bnext (bnext HB1.out HB.out) HB9.out⟩
  · have hfn : (hl.fault counts != 0) = true := by simpa using hf0
    have HLE2 : Hid (Calls Try.prog 5 #[.slice A counts.length c] w fun e w' => e = .returned (.tuple #[.slice none 0 0, .int .i64 (hl.fault counts)]) ∧ Below w.heap.size w w') := Lib.hid (HLE.out.mono (by
      rintro e w' ⟨hb, h⟩
      rw [if_pos hf0] at h
      exact ⟨h, hb⟩))
    have hfe : (hl.fault counts == hl.fault counts) = true := by simp
    clear HLE
    generalize hl.fault counts = fc at *
    go_enter Try.func3, Try.ntmps3
    go_wp2_with (first
      | (go_at_call 5; ((with_reducible refine HLE2.out.mono ?_); rintro e w1 ⟨rfl, hb1⟩; have HB1 := Lib.hid hb1; clear hb1))
      | (go_at_call 6; ((with_reducible refine (HFT.out _ HB1.out).mono ?_); rintro e _ ⟨rfl, rfl⟩))
      | fail)
    go_ret
    exact ⟨rfl, HB1.out⟩
end Go.Proofs.Ytfggcmbainhglaa
