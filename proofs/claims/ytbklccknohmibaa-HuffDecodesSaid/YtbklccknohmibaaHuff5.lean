/- Package huff: the reference's HuffCodes. No condition. -/
import Derived.Test.YtbklccknohmibaaHuff4
namespace Go.Proofs.Ytbklccknohmibaa
open Go.RowKit
set_option linter.unusedSimpArgs false

namespace hf
/-- the row when the first k symbols are through -/
def done (l : List Int) (k : Nat) : List Int := (List.range l.length).map fun s : Nat => if s < k then codeOf l s else 0
theorem done_zero (l : List Int) : done l 0 = List.replicate l.length 0 := by
  unfold done
  apply List.ext_getElem?
  intro j
  rw [List.getElem?_map, List.getElem?_replicate]
  by_cases h : j < l.length
  · rw [List.getElem?_range h, if_pos h]; simp
  · rw [List.getElem?_eq_none (by simpa using h), if_neg h]; rfl
theorem done_len (l : List Int) (k : Nat) : (done l k).length = l.length := by unfold done; simp
theorem done_succ (l : List Int) (k : Nat) : done l (k + 1) = (done l k).set k (codeOf l k) := by
  apply List.ext_getElem?
  intro j
  rw [List.getElem?_set, done_len]
  unfold done
  rw [List.getElem?_map, List.getElem?_map]
  by_cases h : j < l.length
  · rw [List.getElem?_range h]
    simp only [Option.map_some]
    by_cases e : k = j
    · subst e
      rw [if_pos rfl, if_pos h, if_pos (by omega)]
    · rw [if_neg e]
      by_cases h2 : j < k
      · rw [if_pos h2, if_pos (by omega)]
      · rw [if_neg h2, if_neg (by omega)]
  · rw [List.getElem?_eq_none (by simpa using h)]
    by_cases e : k = j
    · subst e; rw [if_pos rfl, if_neg h]; rfl
    · rw [if_neg e]; rfl
theorem done_same {l : List Int} {k : Nat} (hk : k < l.length) (h0 : codeOf l k = 0) : done l (k + 1) = done l k := by
  rw [done_succ, h0]
  apply List.ext_getElem?
  intro j
  rw [List.getElem?_set]
  split
  · next e =>
    subst e
    rw [if_pos (by rw [done_len]; exact hk)]
    unfold done
    rw [List.getElem?_map, List.getElem?_range hk]
    simp
  · rfl
theorem done_end (l : List Int) : done l l.length = codes l := by
  unfold done codes
  apply List.map_congr_left
  intro s hs
  rw [List.mem_range] at hs
  rw [if_pos hs]
theorem done_at {l : List Int} {k : Nat} (hk : k < l.length) : (done l k)[k]? = some 0 := by
  unfold done
  rw [List.getElem?_map, List.getElem?_range hk]
  simp
theorem ahead_nat (l : List Int) (k t : Nat) : ahead l (k : Int) (t : Int) = decide (l.getD t 0 < l.getD k 0 ∨ l.getD t 0 = l.getD k 0 ∧ t < k) := by
  unfold ahead
  rw [len_nat, len_nat]
  congr 1
  simp
end hf

set_option maxRecDepth 100000 in
set_option maxHeartbeats 2000000 in
theorem ref_HuffCodes (l : List Int) (A : Option Addr) (c : Nat) (w : World) (hl : SlRep Rep.int w (· < w.heap.size) l A c) (hn : l.length ≤ 9223372036854775807) :
    Calls Try.prog 17 #[.slice A l.length c] w (CodesPost l w) := by
  have HL := Lib.hid hl
  have HMY := Lib.hid (ref_HuffMay l A c _ w hl hn)
  clear hl
  by_cases hm : hf.may l = true
  · have hf := hf.may_iff.1 hm
    have HF := Lib.hid hf
    have h64 := hf.1
    clear hf
    rw [hm] at HMY
    have HP : Hid (∀ g w2, OI w2 w.heap.size g l.length l.length (hf.codes l) → Below w.heap.size w w2 → CodesPost l w (.returned (.tuple #[.slice (some ⟨g, 0, none⟩) l.length l.length, .int .i64 0])) w2) := Lib.hid (fun g w2 h1 h2 => by unfold CodesPost; rw [if_pos hm]; exact ⟨g, rfl, h1, h2⟩)
    have hmk := make_row (P := Try.prog) (i := Try.t3) (z := .int .i64 0) Try.underlying29 (by kernel_rfl) (by kernel_rfl) rfl rfl l.length (l.length : Int) rfl (by show 8 * _ ≤ _; omega) (by omega)
    have HO1 : Hid (OI (w.alloc (.cells (Array.replicate l.length (.int .i64 0)) 3)) w.heap.size w.heap.size l.length l.length (hf.done l 0)) := Lib.hid (by
      have h := Own.lit w w.heap.size 3 1 l.length (List.replicate l.length (.int .i64 0)) (Nat.le_refl _) (by simp) (by unfold maxLen; omega)
      rw [List.toArray_replicate] at h
      unfold OI
      rw [hf.done_zero, List.map_replicate]
      exact h)
    clear hm
    go_enter Try.func17, Try.ntmps17
    go_wp2_with (go_at_call 23; refine HMY.out.mono ?_; rintro e w' ⟨rfl, rfl⟩)
    go_loopw [18] (fun i wr => ∃ k : Nat, k ≤ l.length ∧ i = .int .i64 k ∧ Hid (OI wr w.heap.size w.heap.size l.length l.length (hf.done l k) ∧ Below w.heap.size w wr)) (fun i _ => l.length - (intOf i).toNat)
    case atStart => exact ⟨0, by omega, rfl, Lib.hid ⟨HO1.out, (by repeat (first | (with_reducible exact Below.refl _ _) | (with_reducible assumption) | (with_reducible refine bset ?_ ?_ _) | (with_reducible refine balloc ?_ _) | (with_reducible refine Below.drew ?_) | (with_reducible refine bdrewN ?_ _) | (with_reducible refine bnext ?_ (by with_reducible assumption)) | exact Nat.le_refl _ | (simp; done) | omega | (simp; omega)))⟩⟩
    case round =>
      obtain ⟨k, hk, rfl, HJ⟩ := hrel
      rename World => wr
      obtain ⟨hO, hB⟩ := HJ.out
      by_cases hlt : k < l.length
      · obtain ⟨b, o, rfl, _, hc1⟩ := int_at (HL.out.below hB) hlt
        have hlt' : (k : Int) < (l.length : Int) := by omega
        have hbd : 0 ≤ l.getD k 0 ∧ l.getD k 0 ≤ 40 := ((hf.fits_iff l).1 HF.out).2.1 k hlt
        by_cases h0 : l.getD k 0 = 0
        · have HN : Hid (OI wr w.heap.size w.heap.size l.length l.length (hf.done l (k + 1)) ∧ Below w.heap.size w wr) := Lib.hid ⟨by rw [hf.done_same hlt (by unfold hf.codeOf; rw [hf.len_nat, if_pos h0])]; exact hO, hB⟩
          clear HJ hO
          generalize l.getD k 0 = y at *
          go_wp2
          go_roundw
          case rel => exact ⟨k + 1, by omega, by go_num, HN⟩
          case measure => simp [intOf]; omega
        · have hfr := hO.frozen k
          have hc3 := hO.at (hf.done_at hlt)
          have HN : Hid (∀ q, q = hf.codeOf l k → OI (wr.setCell ⟨w.heap.size, k, none⟩ (.int .i64 q)) w.heap.size w.heap.size l.length l.length (hf.done l (k + 1)) ∧ Below w.heap.size w (wr.setCell ⟨w.heap.size, k, none⟩ (.int .i64 q))) := Lib.hid (fun q hq => ⟨by rw [hf.done_succ, hq]; exact hO.set k _, bset hB (by simp) _⟩)
          have HQ : Hid (hf.codeOf l k = ((hf.used l k / hf.part (l.getD k 0) : Nat) : Int)) := Lib.hid (by unfold hf.codeOf; rw [hf.len_nat, if_neg h0])
          have HL2 := Lib.hid (HL.out.below hB)
          clear HJ hO HL
          generalize hny : l.getD k 0 = n at *
          have HY := Lib.hid hny
          clear hny
          go_wp2
          go_loop [7, 27] (fun v i => ∃ t : Nat, t ≤ l.length ∧ i = .int .i64 t ∧ v = .int .i64 (hf.refUsed l k t)) (fun _ i => l.length - (intOf i).toNat)
          case atStart => exact ⟨0, by omega, rfl, rfl⟩
          case round =>
            obtain ⟨t, ht, rfl, rfl⟩ := hrel
            by_cases htl : t < l.length
            · obtain ⟨b2, o2, e2, _, hc4⟩ := int_at HL2.out htl
              simp only [Option.some.injEq, Addr.mk.injEq, and_true] at e2
              obtain ⟨rfl, rfl⟩ := e2
              have htl' : (t : Int) < (l.length : Int) := by omega
              have hby : 0 ≤ l.getD t 0 ∧ l.getD t 0 ≤ 40 := ((hf.fits_iff l).1 HF.out).2.1 t htl
              have hrs := hf.refUsed_succ l k t
              have hrl := hf.refUsed_le HF.out k (t + 1) (by omega)
              have hah := hf.ahead_nat l k t
              rw [HY.out] at hah
              have hsp : 0 < l.getD t 0 → ((hf.part (l.getD t 0) : Nat) : Int) = 2 ^ (40 - l.getD t 0).toNat := fun h => hf.shl_part h hby.2
              generalize hx2 : hf.refUsed l k (t + 1) = x2 at *
              have HX2 := Lib.hid hx2
              clear hx2
              generalize hf.refUsed l k t = x at *
              generalize l.getD t 0 = m at *
              by_cases c1 : 0 < m ∧ (m < n ∨ m = n ∧ t < k)
              · have c2 : hf.ahead l k t = true := by rw [hah, decide_eq_true c1.2]
                rw [if_pos ⟨c1.1, c2⟩] at hrs
                have HW : Hid (wrap64 ((x : Int) + wrap64 (2 ^ (40 - m).toNat)) = x2) := Lib.hid (by
                  rw [← hsp c1.1, IntWalk.wrap64_in ((hf.part m : Nat) : Int) (by omega), IntWalk.wrap64_in _ (by omega)]
                  omega)
                obtain ⟨c3, c4⟩ := c1
                clear hrs hah hsp c2 hrl
                rcases c4 with c4 | ⟨rfl, c5⟩
                · go_wp2
                  go_roundw
                  case rel => exact ⟨t + 1, by omega, by go_num, by rw [HW.out, HX2.out]⟩
                  case measure => simp [intOf]; omega
                · have c5' : (t : Int) < (k : Int) := by omega
                  go_wp2
                  go_roundw
                  case rel => exact ⟨t + 1, by omega, by go_num, by rw [HW.out, HX2.out]⟩
                  case measure => simp [intOf]; omega
              · have c2 : ¬ (0 < m ∧ hf.ahead l k t = true) := by rw [hah, decide_eq_true_eq]; exact c1
                rw [if_neg c2] at hrs
                have HX : Hid (x2 = x) := Lib.hid hrs
                clear hrs hah hsp c2 hrl
                by_cases c3 : 0 < m
                · by_cases c4 : m = n
                  · have c5 : ¬ (t : Int) < (k : Int) := fun h => c1 ⟨c3, .inr ⟨c4, by omega⟩⟩
                    obtain rfl : n = m := c4.symm
                    clear c1
                    go_wp2
                    go_roundw
                    case rel => exact ⟨t + 1, by omega, by go_num, by rw [HX2.out, HX.out]⟩
                    case measure => simp [intOf]; omega
                  · have c5 : n < m := by have : ¬ m < n := fun h => c1 ⟨c3, .inl h⟩
                                          omega
                    have c6 : (m == n) = false := by simp; omega
                    clear c1 c4
                    go_wp2
                    exact ⟨⟨.int .i64 x, .int .i64 t, .int .i64 m, .int .i64 ((t : Int) + 1), ⟨t + 1, by omega, by push_cast; rfl, by rw [HX2.out, HX.out]⟩, rfl, rfl, rfl, rfl⟩, by simp [intOf]; omega⟩
                · clear c1
                  go_wp2
                  go_roundw
                  case rel => exact ⟨t + 1, by omega, by go_num, by rw [HX2.out, HX.out]⟩
                  case measure => simp [intOf]; omega
            · obtain rfl : t = l.length := by omega
              have hrl := hf.refUsed_le HF.out k l.length (Nat.le_refl _)
              rw [hf.refUsed_end] at hrl ⊢
              generalize hf.used l k = u at *
              go_wp2
              refine ⟨⟨k + 1, by omega, by push_cast; rfl, Lib.hid (HN.out _ ?_)⟩, by simp [intOf]; omega⟩
              rw [HQ.out, Int.natCast_ediv, hf.shl_part (by omega) (by omega)]
      · obtain rfl : k = l.length := by omega
        rw [hf.done_end] at hO
        have HE := Lib.hid (HP.out _ _ hO hB)
        clear hO HJ
        go_wp2
        go_ret2
        exact HE.out
  · have hmf : hf.may l = false := by cases h : hf.may l <;> simp_all
    have HE : Hid (CodesPost l w (.returned (.tuple #[.slice none 0 0, .int .i64 4])) w) := Lib.hid (by unfold CodesPost; rw [if_neg hm]; exact ⟨rfl, Below.refl _ _⟩)
    rw [hmf] at HMY
    go_enter Try.func17, Try.ntmps17
    go_wp2_with (go_at_call 23; refine HMY.out.mono ?_; rintro e w' ⟨rfl, rfl⟩)
    go_ret2
    exact HE.out
end Go.Proofs.Ytbklccknohmibaa
