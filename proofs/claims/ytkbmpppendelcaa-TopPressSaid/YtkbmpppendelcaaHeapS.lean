/- The reference of huff: HuffCost, walked. No condition. -/
import Derived.Test.YtkbmpppendelcaaHeapR
namespace Go.Proofs.Ytkbmpppendelcaa
open Go.RowKit
set_option linter.unusedSimpArgs false

theorem hl.best_posv (counts : List Int) : hl.best counts = if (hl.posv counts counts.length).length = 1 then (hl.posv counts counts.length).getD 0 0 else hl.hc (hl.posv counts counts.length) := by
  have e : hl.posv counts counts.length = (hl.pos counts).map fun s => counts.getD s 0 := rfl
  rw [e]
  by_cases h : (hl.pos counts).length = 1
  · obtain ⟨s, hs⟩ := List.length_eq_one_iff.1 h
    rw [hl.best_one hs, hs]
    rfl
  · rw [hl.best_not h, if_neg (by rw [List.length_map]; exact h)]
theorem ho.int_at {w : World} {B n c : Nat} {A : Option Addr} {l : List Int} (h : Own w B 3 1 A n c (ho.iv l)) {j : Nat} (hj : j < l.length) : ∃ g, A = some ⟨g, 0, none⟩ ∧ B ≤ g ∧ g < w.heap.size ∧ w.cell? ⟨g, j, none⟩ = some (.int .i64 (l.getD j 0)) :=
  h.cell (by unfold ho.iv; rw [List.getElem?_map, List.getElem?_eq_getElem hj, List.getD_eq_getElem?_getD, List.getElem?_eq_getElem hj]; rfl)
theorem hl.posv_len (counts : List Int) (k : Nat) : (hl.posv counts k).length ≤ k := by
  unfold hl.posv hl.posTo
  rw [List.length_map]
  refine Nat.le_trans (List.length_filter_le ..) ?_
  rw [List.length_range]
  exact Nat.le_refl _
set_option maxRecDepth 100000 in
set_option maxHeartbeats 2000000 in
theorem ref_HuffCost (counts : List Int) (A0 : Option Addr) (c0 : Nat) (w : World) (h0 : SlRep Rep.int w (· < w.heap.size) counts A0 c0) (hn : counts.length ≤ 64) (hr : ∀ n ∈ counts, 0 ≤ n ∧ n ≤ 1048576) :
    Calls Try.prog 15 #[.slice A0 counts.length c0] w fun e w' => e = .returned (.int .i64 (hl.best counts)) ∧ Below w.heap.size w w' := by
  have HL := Lib.hid h0
  have HB : Hid (hl.best counts = if (hl.posv counts counts.length).length = 1 then (hl.posv counts counts.length).getD 0 0 else hl.hc (hl.posv counts counts.length)) := Lib.hid (hl.best_posv counts)
  have HPV : Hid (∀ x ∈ hl.posv counts counts.length, 0 ≤ x) := Lib.hid (fun x hx => by
    unfold hl.posv at hx
    obtain ⟨s, hs, rfl⟩ := List.mem_map.1 hx
    have := (hl.mem_pos.1 hs).2
    omega)
  have HSM : Hid ((hl.posv counts counts.length).sum ≤ 67108864) := Lib.hid (by
    have h1 := hl.sum_le (l := hl.posv counts counts.length) (b := 1048576) (fun x hx => by
      unfold hl.posv at hx
      obtain ⟨s, _, rfl⟩ := List.mem_map.1 hx
      exact hl.getD_le (by omega) (fun n hn => (hr n hn).2) s)
    have h2 := hl.posv_len counts counts.length
    omega)
  obtain ⟨N, hN⟩ : ∃ N, counts.length = N := ⟨_, rfl⟩
  have HN := Lib.hid hN
  rw [hN] at HB HPV HSM hn ⊢
  clear h0 hr hN
  go_enter Try.func15, Try.ntmps15
  go_wp2
  go_loopw [3, 10] (fun s3 i wr => ∃ (k : Nat) (A : Option Addr) (c : Nat), k ≤ N ∧ i = .int .i64 (k : Int) ∧ s3 = .slice A (hl.posv counts k).length c ∧ Hid (Own wr w.heap.size 3 1 A (hl.posv counts k).length c (ho.iv (hl.posv counts k)) ∧ Below w.heap.size w wr)) (fun _ i _ => N - (intOf i).toNat)
  case atStart => exact ⟨0, none, 0, by omega, rfl, rfl, Lib.hid ⟨Own.nil _ _ _ _, bself _⟩⟩
  case round =>
    obtain ⟨k, A, c, hk, rfl, rfl, HK⟩ := hrel
    rename World => wr
    obtain ⟨k4, k5⟩ := HK.out
    have hpl := hl.posv_len counts k
    by_cases hlt : k < N
    · obtain ⟨bA, oA, rfl, hbA, hc1⟩ := int_at (HL.out.below k5) (by have := HN.out; omega : k < counts.length)
      have hlt' : (k : Int) < (N : Int) := by omega
      have hbr : bA < wr.heap.size := Nat.lt_of_lt_of_le hbA k5.size
      by_cases hpos : 0 < counts.getD k 0
      · have HPS : Hid (hl.posv counts (k + 1) = hl.posv counts k ++ [counts.getD k 0]) := Lib.hid (by rw [hl.posv_succ, if_pos hpos])
        have K4 := Lib.hid k4
        have K5 := Lib.hid k5
        generalize hl.posv counts k = xs at *
        generalize counts.getD k 0 = y at *
        clear k4 k5 HK
        go_wp2_with (first
          | (at_builtin; refine wp_app _ rfl _ _ _ rfl ho.elemI w.heap.size A xs.length c _ rfl (K4.out.alloc _) _ 1 1 [.int .i64 y] rfl rfl (Cells.newAt _ _ _ rfl) (by simp [Value.oneCell']) (by omega) (by unfold maxLen; omega) (Nat.le_trans K5.out.size (by simp)) ?_; intro A6 c6 w6 hO6 hg6; have HO6 := Lib.hid hO6; have hst6 : Stays wr w6 (fun q => blkOf A = some q) := (Stays.of_below (by exact (by repeat (first | (with_reducible exact Below.refl _ _) | (with_reducible assumption) | (with_reducible refine bset ?_ ?_ _) | (with_reducible refine balloc ?_ _) | (with_reducible refine Below.drew ?_) | (with_reducible refine bdrewN ?_ _) | (with_reducible refine bnext ?_ (by with_reducible assumption)) | exact Nat.le_refl _ | (simp; done) | omega | (simp; omega)))) _).comp (Stays.grew hg6); have HB6 : Hid (Below w.heap.size w w6) := Lib.hid (K5.out.trans (hst6.below K5.out.size (fun q hq => (K4.out.lt q hq).1))); clear hO6 hg6 hst6)
          | fail)
        go_roundw
        case rel =>
          have e9 : (xs ++ [y]).length = xs.length + 1 := by rw [List.length_append]; rfl
          refine ⟨k + 1, A6, c6, by omega, by go_num, ?_, Lib.hid ⟨?_, HB6.out⟩⟩
          · rw [HPS.out, e9]
          · rw [HPS.out, e9]
            have := HO6.out
            unfold ho.iv at this ⊢
            rw [List.map_append]
            exact this
        case measure => simp [intOf]; omega
      · have HPS : Hid (hl.posv counts (k + 1) = hl.posv counts k) := Lib.hid (by rw [hl.posv_succ, if_neg hpos, List.append_nil])
        have HK2 := Lib.hid (And.intro k4 k5)
        generalize counts.getD k 0 = y at *
        clear k4 k5 HK
        go_wp2
        go_roundw
        case rel => exact ⟨k + 1, A, c, by omega, by go_num, by rw [HPS.out], Lib.hid (by rw [HPS.out]; exact HK2.out)⟩
        case measure => simp [intOf]; omega
    · obtain rfl : k = N := by omega
      have K4 := Lib.hid k4
      have K5 := Lib.hid k5
      clear k4 k5 HK
      obtain ⟨zs, hzs⟩ : ∃ zs, hl.posv counts k = zs := ⟨_, rfl⟩
      rw [hzs] at HB HPV HSM K4 hpl ⊢
      clear hzs
      have hzl : zs.length ≤ 64 := by omega
      by_cases h1 : zs.length = 1
      · obtain ⟨g, rfl, _, lg, a0⟩ := ho.int_at K4.out (j := 0) (by omega)
        have HE : Hid (hl.best counts = zs.getD 0 0) := Lib.hid (by rw [HB.out, if_pos h1])
        obtain ⟨y, rfl⟩ : ∃ y, zs = [y] := List.length_eq_one_iff.1 h1
        simp only [List.getD_cons_zero] at a0
        simp only [List.length_cons, List.length_nil]
        go_wp2
        go_ret
        exact ⟨ret_int (by rw [HE.out]; rfl), K5.out⟩
      · have h1' : ((zs.length : Int) == 1) = false := by simp; omega
        have h1'' : ¬ (zs.length : Int) = 1 := by omega
        have HE : Hid (hl.best counts = hl.hc zs) := Lib.hid (by rw [HB.out, if_neg h1])
        have H0 : Hid ((0 : Int) + hl.hc zs = hl.hc zs ∧ (∀ x ∈ zs, 0 ≤ x) ∧ zs.sum ≤ 67108864 ∧ Own wr w.heap.size 3 1 A zs.length c (ho.iv zs) ∧ Below w.heap.size w wr) := Lib.hid ⟨Int.zero_add _, HPV.out, HSM.out, K4.out, K5.out⟩
        have htot := (hl.hc_bd (S := 67108864) (by omega) HPV.out HSM.out hzl).2
        obtain ⟨tot, ht⟩ : ∃ tot, hl.hc zs = tot := ⟨_, rfl⟩
        rw [ht] at htot HE
        have HT := Lib.hid ht
        clear HB HPV HSM K4 K5 ht
        go_wp2
        go_loopw [3, 6] (fun s3 s6 wx => ∃ (xs : List Int) (A : Option Addr) (c : Nat) (v : Int), s3 = .slice A xs.length c ∧ s6 = .int .i64 v ∧ xs.length ≤ 64 ∧ Hid (v + hl.hc xs = tot ∧ (∀ x ∈ xs, 0 ≤ x) ∧ xs.sum ≤ 67108864 ∧ 0 ≤ v ∧ Own wx w.heap.size 3 1 A xs.length c (ho.iv xs) ∧ Below w.heap.size w wx)) (fun s3 _ _ => match s3 with | .slice _ n _ => n | _ => 0)
        case atStart => exact ⟨zs, A, c, 0, rfl, rfl, hzl, Lib.hid ⟨by rw [HT.out, Int.zero_add], H0.out.2.1, H0.out.2.2.1, Int.le_refl _, H0.out.2.2.2.1, H0.out.2.2.2.2⟩⟩
        case round =>
          obtain ⟨xs, A, c, v, rfl, rfl, hxl, HX⟩ := hrel
          rename World => wx
          obtain ⟨x1, x2, x3, xv, x4, x5⟩ := HX.out
          by_cases h2 : 2 ≤ xs.length
          · have h2' : (1 : Int) < (xs.length : Int) := by omega
            obtain ⟨a, b, r, hab, hhc, hln, hsm, hpo⟩ := hl.round h2
            obtain ⟨hpo1, ha0, hb0⟩ := hpo x2
            obtain ⟨g, rfl, _, lg, _⟩ := ho.int_at x4 (j := 0) (by omega)
            have HSO := Lib.hid (ho.sorted w.heap.size g c xs wx x4 (by omega))
            rw [hab] at HSO
            have hbd := hl.hc_bd (S := 67108864) (by omega) hpo1 (by omega) (by omega)
            have hsum2 : a + b ≤ 67108864 := by
              have h9 := hl.le_sum hpo1 (x := a + b) (by simp)
              omega
            have hw1 : IntKind.i64.wrap (a + b) = a + b := IntWalk.i64_in _ (by omega)
            have hw2 : IntKind.i64.wrap (v + (a + b)) = v + (a + b) := IntWalk.i64_in _ (by omega)
            have hcut := fun W => run_cut_l (P := Try.prog) ho.elemI (some ⟨g, 0, none⟩) xs.length c 2 h2 2 rfl W
            obtain ⟨m, hm⟩ : ∃ m, xs.length = m + 2 := ⟨xs.length - 2, by omega⟩
            have hrm : r.length = m := by simp only [List.length_cons] at hln; omega
            have hsub : xs.length - 2 = m := by omega
            have hm64 : m ≤ 64 := by omega
            have X4 := Lib.hid x4
            have X5 := Lib.hid x5
            have HRS : Hid ((v + (a + b)) + hl.hc ((a + b) :: r) = tot ∧ (∀ x ∈ (a + b) :: r, 0 ≤ x) ∧ ((a + b) :: r).sum ≤ 67108864 ∧ 0 ≤ v + (a + b)) := Lib.hid ⟨by omega, hpo1, by omega, by omega⟩
            rw [hsub] at hcut
            have HRM := Lib.hid hrm
            have HXM := Lib.hid hm
            clear x1 x2 x3 x4 x5 HX hab hhc hln hsm hpo1 hbd hrm hm hsub
            go_upto_region 13 with (first
              | (go_at_call 28; ((with_reducible refine HSO.out.mono ?_); rintro e w4 ⟨rfl, h4, s4⟩; have H4 := Lib.hid h4; have S4 := Lib.hid s4; clear h4 s4))
              | fail)
            have hs04 : Below w.heap.size w w4 := X5.out.trans (S4.out.below X5.out.size (fun q hq => by subst hq; exact (X4.out.lt q rfl).1))
            have HB4 := Lib.hid hs04
            obtain ⟨_, e9, _, _, a0⟩ := H4.out.cell (j := 0) (u := .int .i64 a) rfl
            simp only [Option.some.injEq, Addr.mk.injEq, and_true] at e9
            subst e9
            obtain ⟨_, e9, _, _, a1⟩ := H4.out.cell (j := 1) (u := .int .i64 b) rfl
            simp only [Option.some.injEq, Addr.mk.injEq, and_true] at e9
            subst e9
            have lg4 : g < w4.heap.size := Nat.lt_of_lt_of_le lg S4.out.size
            have h2n : (1 : Int) < (xs.length : Int) := by omega
            have h0n : (0 : Int) < (xs.length : Int) := by omega
            clear hs04
            go_quiet (fail)
            have HBK : Hid (∀ wy, Below w4.heap.size w4 wy → Cells wy (cutA (some ⟨g, 0, none⟩) c 2 1) (r.map (Value.int .i64))) := Lib.hid (fun wy hb => by
              have h9 := (H4.out.next hb).back1 (k := 2) h2
              simpa [ho.iv] using h9)
            generalize hw5 : World.drewN w4 _ = w5
            have hb45 : Below w4.heap.size w4 w5 := by rw [← hw5]; exact bdrewN (bself _) _
            have HB5 : Hid (Below w.heap.size w w5) := Lib.hid (bnext HB4.out hb45)
            have HB45 := Lib.hid hb45
            have HLT : Hid (Own (w5.alloc (.cells #[.int .i64 (a + b)] 3)) w.heap.size 3 1 (some ⟨w5.heap.size, 0, none⟩) 1 1 [.int .i64 (a + b)]) := Lib.hid (Own.lit w5 w.heap.size _ 1 1 [.int .i64 (a + b)] HB5.out.size rfl (by decide))
            clear hw5 hb45 a0 a1 lg4 h0n
            go_wp2_with (first
              | (at_builtin; refine wp_app _ rfl _ _ _ rfl ho.elemI w.heap.size _ 1 1 [.int .i64 (a + b)] rfl HLT.out _ m _ (r.map (Value.int .i64)) rfl (by rw [List.length_map, HRM.out, Nat.mul_one]) (HBK.out _ (bnext HB45.out (balloc (bself w5) _))) (by intro u hu; obtain ⟨_, _, rfl⟩ := List.mem_map.1 hu; rfl) (by omega) (by unfold maxLen; omega) (Nat.le_trans HB5.out.size (by simp)) ?_; intro A6 c6 w6 hO6 hg6; have HO6 := Lib.hid hO6; have hst6 : Stays w5 w6 (fun q => q = w5.heap.size) := (Stays.of_below (balloc (bself w5) _) _).comp ((Stays.grew hg6).mono fun q _ e => by (have e' : w5.heap.size = q := by simpa [blkOf] using e); omega); have HB6 : Hid (Below w.heap.size w w6) := Lib.hid (HB5.out.trans (hst6.below HB5.out.size (fun q hq => by rw [hq]; exact HB5.out.size))); clear hO6 hg6 hst6)
              | fail)
            go_roundw
            case rel =>
              have e9 : ((a + b) :: r).length = 1 + m := by rw [List.length_cons, HRM.out]; omega
              refine ⟨(a + b) :: r, A6, c6, v + (a + b), by rw [e9], rfl, by have := HXM.out; omega, Lib.hid ⟨HRS.out.1, HRS.out.2.1, HRS.out.2.2.1, HRS.out.2.2.2, ?_, HB6.out⟩⟩
              rw [e9]
              exact HO6.out
            case measure => have := HXM.out; simp only; omega
          · have h2' : ¬ (1 : Int) < (xs.length : Int) := by omega
            have HVE : Hid (tot = v) := Lib.hid (by rw [← x1, hl.hc_few (by omega)]; omega)
            have X5 := Lib.hid x5
            clear x1 x2 x3 x4 x5 HX
            go_wp2
            go_ret
            exact ⟨ret_int (by rw [HE.out, HVE.out]), X5.out⟩
end Go.Proofs.Ytkbmpppendelcaa
