/- Package delta: the reference of Delta. No condition. -/
import Derived.Test.YtedbidblnjajdaaDelta4
namespace Go.Proofs.Ytedbidblnjajdaa
open Go.RowKit

theorem deltaq.drop_get (l : List UInt8) (i q : Nat) : (l.drop i).getD q 0 = l.getD (i + q) 0 := by
  simp only [List.getD_eq_getElem?_getD, List.getElem?_drop]
/-- what stands in the slice of pieces at a place, by the reference's own word -/
def DRef (o n : List UInt8) (w : World) (base k : Nat) (fr : Bool) (A : Option Addr) (N c : Nat) : Prop :=
  (fr = true ∧ ∃ L, N = L.length ∧ N ≤ k ∧ DClosed w base A c L ∧ L ++ deltaq.pcs o n k none = deltaq.pcs o n 0 none) ∨
  (fr = false ∧ ∃ L d, N = L.length + 1 ∧ N ≤ k ∧ d.length ≤ k ∧ DOpen w base A c L d ∧ L ++ deltaq.pcs o n k (some d) = deltaq.pcs o n 0 none)
theorem DRef.le {o n : List UInt8} {w : World} {base k : Nat} {fr : Bool} {A : Option Addr} {N c : Nat} (h : DRef o n w base k fr A N c) : N ≤ k := by
  rcases h with ⟨_, L, h0, hk, _⟩ | ⟨_, L, d, h0, hk, _⟩ <;> omega
theorem DRef.hit {o n : List UInt8} {w : World} {base k : Nat} {fr : Bool} {A : Option Addr} {N c : Nat} (h : DRef o n w base k fr A N c) (hk : k < n.length) (h8 : 8 ≤ (deltaq.top o n k).2) :
    ∃ L, N = L.length ∧ DClosed w base A c L ∧ (L ++ [deltaq.cop (deltaq.top o n k)]) ++ deltaq.pcs o n (k + (deltaq.top o n k).2) none = deltaq.pcs o n 0 none := by
  rcases h with ⟨_, L, h0, _, h1, h2⟩ | ⟨_, L, d, h0, _, hd, h1, h2⟩
  · exact ⟨L, h0, h1, by rw [← h2, deltaq.pcs_copy none hk h8]; simp⟩
  · exact ⟨L ++ [deltaq.lit d], by simpa using h0, h1.close, by rw [← h2, deltaq.pcs_copy (some d) hk h8]; simp⟩
theorem DRef.fin {o n : List UInt8} {w : World} {base : Nat} {fr : Bool} {A : Option Addr} {N c : Nat} (h : DRef o n w base n.length fr A N c) : ∃ L, N = L.length ∧ DClosed w base A c L ∧ deltaq.pcs o n 0 none = L := by
  rcases h with ⟨_, L, h0, _, h1, h2⟩ | ⟨_, L, d, h0, _, hd, h1, h2⟩
  · exact ⟨L, h0, h1, by rw [← h2, deltaq.pcs_end none (Nat.le_refl _)]; simp⟩
  · exact ⟨L ++ [deltaq.lit d], by simpa using h0, h1.close, by rw [← h2, deltaq.pcs_end (some d) (Nat.le_refl _)]; simp⟩

set_option maxRecDepth 100000 in
set_option maxHeartbeats 8000000 in
theorem ref_DeltaOf_ok (o n : List UInt8) (A0 A1 : Option Addr) (c0 c1 : Nat) (w : World) (ho : SlRep Rep.u8 w (· < w.heap.size) o A0 c0) (hn : SlRep Rep.u8 w (· < w.heap.size) n A1 c1) (hlo : o.length ≤ 2048) (hln : n.length ≤ 2048) :
    Calls Try.prog 24 #[.slice A0 o.length c0, .slice A1 n.length c1] w (PcsRes (deltaq.pcs o n 0 none) 0 w) := by
  have HO := Lib.hid ho
  have HN := Lib.hid hn
  clear ho hn
  go_enter Try.func24, Try.ntmps24
  go_wp2
  go_loopw [6, 7, 8] (fun out fr at_ wr => ∃ (k N c' : Nat) (A' : Option Addr) (fb : Bool), at_ = .int .i64 k ∧ out = .slice A' N c' ∧ fr = .bool fb ∧ k ≤ n.length ∧ Hid (DRef o n wr w.heap.size k fb A' N c') ∧ Below w.heap.size w wr) (fun _ _ at_ _ => n.length - (intOf at_).toNat)
  case atStart => exact ⟨0, 0, 0, none, true, rfl, rfl, rfl, by omega, Lib.hid (.inl ⟨rfl, [], rfl, by omega, ⟨[], Own.nil _ _ _ _, rfl⟩, rfl⟩), Below.refl _ _⟩
  case round =>
    obtain ⟨k, N, c', A', fb, rfl, rfl, rfl, hk, HD, hB⟩ := hrel
    rename World => wr
    have hszr := hB.size
    have hNk := HD.out.le
    by_cases hlt : k < n.length
    · have hlti : (k : Int) < (n.length : Int) := by omega
      have HNr : Hid (SlRep Rep.u8 wr (· < w.heap.size) n A1 c1) := Lib.hid (HN.out.keep fun q hq => ⟨hq, hB.block q hq⟩)
      have HOr : Hid (SlRep Rep.u8 wr (· < w.heap.size) o A0 c0) := Lib.hid (HO.out.keep fun q hq => ⟨hq, hB.block q hq⟩)
      obtain ⟨bb, oo, rfl, hbb, hcb⟩ := u8_at HNr.out hlt
      have hbw : bb < wr.heap.size := by omega
      have HTL := Lib.hid (deltaq.top_le o n k)
      go_wp2
      go_loopw [9, 10, 11] (fun fm mo i wq => ∃ d m : Nat, i = .int .i64 d ∧ fm = .int .i64 ((deltaq.best o n k d).1 : Nat) ∧ mo = .int .i64 ((deltaq.best o n k d).2 : Nat) ∧ d ≤ o.length ∧ wq = wr.drewN m) (fun _ _ i _ => o.length - (intOf i).toNat)
      case atStart => exact ⟨0, 0, rfl, rfl, rfl, by omega, rfl⟩
      case round =>
        obtain ⟨D, mz, rfl, rfl, rfl, hD, rfl⟩ := hrel
        by_cases hDl : D < o.length
        · have hDi : (D : Int) < (o.length : Int) := by omega
          have HBA : Hid (deltaq.best o n k (D + 1) = if (deltaq.best o n k D).2 < deltaq.run o n D k then (D, deltaq.run o n D k) else deltaq.best o n k D) := Lib.hid rfl
          have HR0 := Lib.hid (deltaq.best_le o n k D)
          clear HTL HD hcb
          generalize deltaq.best o n k D = s at *
          go_wp2
          go_loopw [12] (fun i wq => ∃ q m : Nat, D + q ≤ o.length ∧ k + q ≤ n.length ∧ i = .int .i64 q ∧ wq = wr.drewN m ∧ Hid (deltaq.upto (o.drop D) (n.drop k) q)) (fun i _ => o.length - (intOf i).toNat)
          case atStart => exact ⟨0, _, by omega, by omega, rfl, rfl, Lib.hid (deltaq.upto_zero _ _)⟩
          case round =>
            obtain ⟨q, m, hq1, hq2, rfl, rfl, HU⟩ := hrel
            by_cases h1 : D + q < o.length
            · have h1i : (D : Int) + (q : Int) < (o.length : Int) := by omega
              by_cases h2 : k + q < n.length
              · have h2i : (k : Int) + (q : Int) < (n.length : Int) := by omega
                obtain ⟨b, o', rfl, _, hc1⟩ := u8_at HOr.out h1
                obtain ⟨b2, o2, e, _, hc2⟩ := u8_at HNr.out h2
                simp only [Option.some.injEq, Addr.mk.injEq, and_true] at e
                obtain ⟨rfl, rfl⟩ := e
                have HS := Lib.hid (fun h : o.getD (D + q) 0 = n.getD (k + q) 0 => deltaq.upto_succ HU.out (by rw [List.length_drop]; omega) (by rw [List.length_drop]; omega) (by rw [deltaq.drop_get, deltaq.drop_get]; exact h))
                have HY := Lib.hid (fun h : ¬ o.getD (D + q) 0 = n.getD (k + q) 0 => deltaq.upto_ne HU.out (by rw [List.length_drop]; omega) (by rw [List.length_drop]; omega) (by rw [deltaq.drop_get, deltaq.drop_get]; exact h))
                obtain ⟨p, hp⟩ : ∃ p, p = D + q := ⟨_, rfl⟩
                obtain ⟨r, hr⟩ : ∃ r, r = k + q := ⟨_, rfl⟩
                rw [← hp, ← hr] at HS HY
                rw [← hp] at hc1
                rw [← hr] at hc2
                have e1 : (D : Int) + (q : Int) = (p : Int) := by omega
                have e2 : (k : Int) + (q : Int) = (r : Int) := by omega
                have h3i : (p : Int) < (o.length : Int) := by omega
                have h4i : (r : Int) < (n.length : Int) := by omega
                have hle : D + (q + 1) ≤ o.length ∧ k + (q + 1) ≤ n.length := by omega
                rw [e1] at h1i
                rw [e2] at h2i
                clear hp hr HU
                by_cases h3 : o.getD p 0 = n.getD r 0
                · have HU2 := Lib.hid (HS.out h3)
                  rw [h3] at hc1
                  clear HS HY h3
                  generalize n.getD r 0 = x at *
                  go_wp2
                  go_quiet (fail)
                  go_wp2
                  go_roundw
                  case rel => exact ⟨q + 1, _, hle.1, hle.2, by go_num, by first | rfl | exact drewN_plus _ _ _, HU2⟩
                  case measure => simp [intOf]; omega
                · have HR : Hid (deltaq.run o n D k = q) := Lib.hid (HY.out h3)
                  have hq := u8_neq h3
                  clear HS HY h3
                  generalize n.getD r 0 = x at *
                  generalize o.getD p 0 = y at *
                  by_cases hgt : s.2 < q
                  · have hgi : (s.2 : Int) < (q : Int) := by omega
                    have HBB : Hid (deltaq.best o n k (D + 1) = (D, q)) := Lib.hid (by rw [HBA.out, HR.out, if_pos hgt])
                    clear HBA HR HR0
                    go_wp2
                    go_quiet (fail)
                    go_wp2
                    go_roundw
                    case rel => exact ⟨D + 1, _, by go_num, by rw [HBB.out], by rw [HBB.out], by omega, by first | rfl | exact drewN_plus _ _ _⟩
                    case measure => simp [intOf]; omega
                  · have hgi : ¬ (s.2 : Int) < (q : Int) := by omega
                    have HBB : Hid (deltaq.best o n k (D + 1) = s) := Lib.hid (by rw [HBA.out, HR.out, if_neg hgt])
                    clear HBA HR HR0
                    go_wp2
                    go_quiet (fail)
                    go_wp2
                    go_roundw
                    case rel => exact ⟨D + 1, _, by go_num, by rw [HBB.out], by rw [HBB.out], by omega, by first | rfl | exact drewN_plus _ _ _⟩
                    case measure => simp [intOf]; omega
              · have h2d : decide ((k : Int) + (q : Int) < (n.length : Int)) = false := by simp; omega
                have HR : Hid (deltaq.run o n D k = q) := Lib.hid (deltaq.upto_end HU.out (.inr (by rw [List.length_drop]; omega)))
                clear HU
                by_cases hgt : s.2 < q
                · have hgi : (s.2 : Int) < (q : Int) := by omega
                  have HBB : Hid (deltaq.best o n k (D + 1) = (D, q)) := Lib.hid (by rw [HBA.out, HR.out, if_pos hgt])
                  clear HBA HR HR0
                  go_wp2
                  go_quiet (fail)
                  go_wp2
                  go_roundw
                  case rel => exact ⟨D + 1, _, by go_num, by rw [HBB.out], by rw [HBB.out], by omega, by first | rfl | exact drewN_plus _ _ _⟩
                  case measure => simp [intOf]; omega
                · have hgi : ¬ (s.2 : Int) < (q : Int) := by omega
                  have HBB : Hid (deltaq.best o n k (D + 1) = s) := Lib.hid (by rw [HBA.out, HR.out, if_neg hgt])
                  clear HBA HR HR0
                  go_wp2
                  go_quiet (fail)
                  go_wp2
                  go_roundw
                  case rel => exact ⟨D + 1, _, by go_num, by rw [HBB.out], by rw [HBB.out], by omega, by first | rfl | exact drewN_plus _ _ _⟩
                  case measure => simp [intOf]; omega
            · have h1d : decide ((D : Int) + (q : Int) < (o.length : Int)) = false := by simp; omega
              have HR : Hid (deltaq.run o n D k = q) := Lib.hid (deltaq.upto_end HU.out (.inl (by rw [List.length_drop]; omega)))
              clear HU
              by_cases hgt : s.2 < q
              · have hgi : (s.2 : Int) < (q : Int) := by omega
                have HBB : Hid (deltaq.best o n k (D + 1) = (D, q)) := Lib.hid (by rw [HBA.out, HR.out, if_pos hgt])
                clear HBA HR HR0
                go_wp2
                go_quiet (fail)
                go_wp2
                go_roundw
                case rel => exact ⟨D + 1, _, by go_num, by rw [HBB.out], by rw [HBB.out], by omega, by first | rfl | exact drewN_plus _ _ _⟩
                case measure => simp [intOf]; omega
              · have hgi : ¬ (s.2 : Int) < (q : Int) := by omega
                have HBB : Hid (deltaq.best o n k (D + 1) = s) := Lib.hid (by rw [HBA.out, HR.out, if_neg hgt])
                clear HBA HR HR0
                go_wp2
                go_quiet (fail)
                go_wp2
                go_roundw
                case rel => exact ⟨D + 1, _, by go_num, by rw [HBB.out], by rw [HBB.out], by omega, by first | rfl | exact drewN_plus _ _ _⟩
                case measure => simp [intOf]; omega
        · obtain rfl : D = o.length := by omega
          rw [show deltaq.best o n k o.length = deltaq.top o n k from rfl]
          have hle := HTL.out
          have hBq : Below wr.heap.size wr (wr.drewN mz) := bdrewN (bself wr) mz
          have hBq2 : Below w.heap.size w (wr.drewN mz) := bdrewN hB mz
          by_cases hit : 8 ≤ (deltaq.top o n k).2
          · obtain ⟨L, hN, ⟨xs, hx1, hx2⟩, hL⟩ := HD.out.hit hlt hit
            rw [← hN] at hx1
            have HX1 := Lib.hid hx1
            have HX2 := Lib.hid hx2
            have HLL := Lib.hid hL
            have HL0 := Lib.hid hN
            clear hx1 hx2 hL HD HTL hN hcb
            generalize deltaq.top o n k = s at *
            have hs0 : (8 : Int) ≤ (s.2 : Int) := by omega
            go_wp2_with (first
              | (at_builtin; refine wp_app _ rfl _ _ _ rfl elemPiece w.heap.size A' _ c' _ rfl ((HX1.out.next hBq).alloc _) _ 1 1 [.bool true, .int .i64 (s.1 : Nat), .int .i64 (s.2 : Nat), .slice none 0 0] rfl rfl (Cells.newAt _ _ _ (by first | rfl | simp)) (by simp [Value.oneCell']) (by omega) (by unfold maxLen; omega) (by have := hBq2.size; simp at this ⊢; omega) ?_; intro A3 c3 w3 ho3 hg3; have HO3 := Lib.hid ho3; clear ho3)
              | fail)
            rw [HL0.out] at HO3
            have HO4 := Lib.hid (DClosed.grow (HX2.out.keep (w' := (wr.drewN mz).alloc _) (fun q hq => Apart.next (balloc hBq _) q hq)) hg3 (fun S => piece_cop s) HO3.out)
            have hB3 : Below w.heap.size w w3 := Grew.step (balloc hBq2 _) hg3 (fun q hq => (HX1.out.lt q hq).1)
            go_roundw
            case rel => exact ⟨k + s.2, N + 1, c3, A3, true, by go_num, rfl, rfl, by omega, Lib.hid (.inl ⟨rfl, L ++ [deltaq.cop s], by rw [List.length_append, ← HL0.out]; rfl, by omega, HO4.out, HLL.out⟩), hB3⟩
            case measure => simp [intOf]; omega
          · have hits : ¬ (8 : Int) ≤ ((deltaq.top o n k).2 : Int) := by omega
            have HPL := Lib.hid (fun d' => deltaq.pcs_lit (o := o) (n := n) (a := k) d' hlt (by omega))
            have hx : (wr.drewN mz).cell? ⟨bb, oo + k, none⟩ = some (.int .u8 (n.getD k 0).toNat) := hcb
            have HD0 := Lib.hid HD.out
            clear HTL HD hit
            generalize deltaq.top o n k = s at *
            generalize n.getD k 0 = x at *
            rcases HD0.out with ⟨rfl, L, hN, hNk1, ⟨xs0, hx1, hx2⟩, hE⟩ | ⟨rfl, L, d, hN, hNk1, hdk, ⟨xs, Bd, cB, hq1, hq2, hq3, hq4⟩, hE⟩
            · have HEQ : Hid (L ++ deltaq.pcs o n (k + 1) (some ([] ++ [x])) = deltaq.pcs o n 0 none) := Lib.hid (by rw [← hE, HPL.out none]; rfl)
              have HL0 : Hid (N = L.length) := Lib.hid hN
              rw [← HL0.out] at hx1
              have HX1 := Lib.hid hx1
              have HX2 := Lib.hid hx2
              clear hx1 hx2 hE HPL HD0 hN
              go_wp2_with (first
                | (at_builtin; refine wp_app _ rfl _ _ _ rfl elemPiece w.heap.size A' _ c' _ rfl ((HX1.out.next hBq).alloc _) _ 1 1 [.bool false, .int .i64 0, .int .i64 0, .slice none 0 0] rfl rfl (Cells.newAt _ _ _ (by first | rfl | simp)) (by simp [Value.oneCell']) (by omega) (by unfold maxLen; omega) (by have := hBq2.size; simp at this ⊢; omega) ?_; intro A3 c3 w3 ho3 hg3; have hx3 : w3.cell? ⟨bb, oo + k, none⟩ = some (.int .u8 (x.toNat : Int)) := (hg3.cell (b := bb) (oo + k) (by have := hBq.size; simp at this ⊢; omega) (fun q hq e => by have h1 := HX1.out.lt q hq; omega)).trans ((World.cell?_alloc_old _ _ _ (by have := hBq.size; simp at this ⊢; omega)).trans hx); obtain ⟨G, rfl, hG1, hG2⟩ := ho3.some (by simp))
                | fail)
              have hBT : Below w.heap.size w w3 := Grew.step (balloc hBq2 _) hg3 (fun q hq => (HX1.out.lt q hq).1)
              rw [HL0.out] at ho3
              obtain ⟨xs, Bd, cB, hq1, hq2, hq3, hq4⟩ := DOpen.fresh (HX2.out.keep (fun q hq => Apart.next (balloc hBq _) q hq)) hg3 ho3
              rw [← HL0.out] at hq1
              clear ho3 hg3 HX1 HX2
              have hix : (N : Int) < (N : Int) + 1 := by omega
              have HMO : Hid (∀ mm ob, Own ((w3.drewN mm).alloc ob) w.heap.size 87 4 (some ⟨G, 0, none⟩) (N + 1) c3 (xs ++ [.bool false, .int .i64 0, .int .i64 0, .slice Bd ([] : List UInt8).length cB]) ∧ RowsOf Piece.rep ((w3.drewN mm).alloc ob) (Apart2 ((w3.drewN mm).alloc ob) w.heap.size (some ⟨G, 0, none⟩) Bd) L xs ∧ Own ((w3.drewN mm).alloc ob) w.heap.size 5 1 Bd ([] : List UInt8).length cB (List.map u8v [])) := Lib.hid fun mm ob => ⟨hq1.next (balloc (bdrewN (bself _) _) _), hq2.keep (Apart2.next (balloc (bdrewN (bself _) _) _)), hq3.next (balloc (bdrewN (bself _) _) _)⟩
              have HSX : Hid (∀ mm ob, G < ((w3.drewN mm).alloc ob).heap.size) := Lib.hid fun mm ob => ((HMO.out mm ob).1.lt G rfl).2
              have HBX : Hid (∀ mm ob, w.heap.size ≤ ((w3.drewN mm).alloc ob).heap.size) := Lib.hid fun mm ob => Nat.le_of_lt (Nat.lt_of_le_of_lt ((HMO.out mm ob).1.lt G rfl).1 ((HMO.out mm ob).1.lt G rfl).2)
              have hl := hq2.len
              rw [show Piece.rep.size = 4 from rfl, ← HL0.out] at hl
              have HCD : Hid (∀ mm ob, ((w3.drewN mm).alloc ob).cell? ⟨G, N * 4 + 3, none⟩ = some (.slice Bd ([] : List UInt8).length cB)) := Lib.hid fun mm ob => by
                obtain ⟨g', e, _, _, hc⟩ := (HMO.out mm ob).1.cell (j := N * 4 + 3) (u := .slice Bd ([] : List UInt8).length cB) (by rw [List.getElem?_append_right (by omega), show N * 4 + 3 - xs.length = 3 by omega]; rfl)
                cases e
                exact hc
              have HFD : Hid (∀ mm ob, ((w3.drewN mm).alloc ob).frozen? ⟨G, N * 4 + 3, none⟩ = false) := Lib.hid fun mm ob => (HMO.out mm ob).1.frozenAt _
              have hcD := HCD.out
              have hc3 : w3.cell? ⟨G, N * 4 + 3, none⟩ = some (.slice Bd ([] : List UInt8).length cB) := (World.cell?_alloc_old (w3.drewN 0) (.cells #[] 0) ⟨G, N * 4 + 3, none⟩ (Nat.ne_of_lt hG2)).symm.trans (HCD.out 0 (.cells #[] 0))
              have HNE : Hid (∀ q, blkOf Bd = some q → q ≠ G) := Lib.hid fun q hq e => hq4 q hq (by rw [e]; rfl)
              have HQ4 := Lib.hid hq4
              clear hq1 hq2 hq3 hq4 hl
              go_region_law
                (first
                  | (go_loud (refine step_app _ (by rfl) _ _ _ (by rfl) elemU8 w.heap.size Bd ([] : List UInt8).length cB _ (by rfl) (HMO.out _ _).2.2 (some ⟨w3.heap.size, 0, none⟩) 1 1 [.int .u8 (x.toNat : Int)] (by rfl) (by rfl) (Cells.newAt _ _ _ (by first | rfl | (simp; done))) (by simp [Value.oneCell']) (by first | omega | (simp; done) | (simp; omega)) (by unfold maxLen; first | omega | (simp; done) | (simp; omega)) (HBX.out _ _) ?_; intro A5 c5 w5 hO5 hg5; have x5 := (hg5.cell (b := G) (N * 4 + 3) (HSX.out _ _) HNE.out).trans (HCD.out _ _); have x6 := (hg5.frozen (b := G) (N * 4 + 3) (HSX.out _ _) HNE.out).trans (HFD.out _ _)))
                  | fail)
              all_goals
                have HDD := Lib.hid (DOpen.more (d := []) HL0.out (HMO.out _ _).1 (HMO.out _ _).2.1 HQ4.out hg5 hO5)
                have hB5 : Below w.heap.size w w5 := Grew.step (balloc (bdrewN hBT _) _) hg5 (fun q hq => ((HMO.out 0 (.cells #[] 0)).2.2.lt q hq).1)
                have hB6 : Below w.heap.size w (w5.setCell ⟨G, N * 4 + 3, none⟩ (.slice A5 (([] : List UInt8).length + 1) c5)) := hB5.setCell (p := ⟨G, _, none⟩) hG1 _
                clear hg5 hO5 x5 x6 HMO HSX HBX HCD HFD hcD hc3 hB5
                go_wp2
                go_roundw
                case rel => exact ⟨k + 1, N + 1, c3, some ⟨G, 0, none⟩, false, by go_num, rfl, rfl, by omega, Lib.hid (.inr ⟨rfl, L, [] ++ [x], by rw [← HL0.out], by omega, by simp <;> omega, HDD.out, HEQ.out⟩), hB6⟩
                case measure => simp [intOf]; omega
            · obtain ⟨G, rfl, hG1, hG2⟩ := hq1.some (by simp)
              have HEQ : Hid (L ++ deltaq.pcs o n (k + 1) (some (d ++ [x])) = deltaq.pcs o n 0 none) := Lib.hid (by rw [← hE, HPL.out (some d)]; rfl)
              obtain ⟨M, hM⟩ : ∃ M, M = L.length := ⟨_, rfl⟩
              rw [← hM] at hN hq1
              have HL0 := Lib.hid hM
              subst hN
              have hBT := hB
              clear hE HPL HD0 hM
              go_wp2_with fail
              have hix : (M : Int) < (M : Int) + 1 := by omega
              have HMO : Hid (∀ mm ob, Own ((wr.drewN mm).alloc ob) w.heap.size 87 4 (some ⟨G, 0, none⟩) (M + 1) c' (xs ++ [.bool false, .int .i64 0, .int .i64 0, .slice Bd (d : List UInt8).length cB]) ∧ RowsOf Piece.rep ((wr.drewN mm).alloc ob) (Apart2 ((wr.drewN mm).alloc ob) w.heap.size (some ⟨G, 0, none⟩) Bd) L xs ∧ Own ((wr.drewN mm).alloc ob) w.heap.size 5 1 Bd (d : List UInt8).length cB (List.map u8v d)) := Lib.hid fun mm ob => ⟨hq1.next (balloc (bdrewN (bself _) _) _), hq2.keep (Apart2.next (balloc (bdrewN (bself _) _) _)), hq3.next (balloc (bdrewN (bself _) _) _)⟩
              have HSX : Hid (∀ mm ob, G < ((wr.drewN mm).alloc ob).heap.size) := Lib.hid fun mm ob => ((HMO.out mm ob).1.lt G rfl).2
              have HBX : Hid (∀ mm ob, w.heap.size ≤ ((wr.drewN mm).alloc ob).heap.size) := Lib.hid fun mm ob => Nat.le_of_lt (Nat.lt_of_le_of_lt ((HMO.out mm ob).1.lt G rfl).1 ((HMO.out mm ob).1.lt G rfl).2)
              have hl := hq2.len
              rw [show Piece.rep.size = 4 from rfl, ← HL0.out] at hl
              have HCD : Hid (∀ mm ob, ((wr.drewN mm).alloc ob).cell? ⟨G, M * 4 + 3, none⟩ = some (.slice Bd (d : List UInt8).length cB)) := Lib.hid fun mm ob => by
                obtain ⟨g', e, _, _, hc⟩ := (HMO.out mm ob).1.cell (j := M * 4 + 3) (u := .slice Bd (d : List UInt8).length cB) (by rw [List.getElem?_append_right (by omega), show M * 4 + 3 - xs.length = 3 by omega]; rfl)
                cases e
                exact hc
              have HFD : Hid (∀ mm ob, ((wr.drewN mm).alloc ob).frozen? ⟨G, M * 4 + 3, none⟩ = false) := Lib.hid fun mm ob => (HMO.out mm ob).1.frozenAt _
              have hcD := HCD.out
              have hc3 : wr.cell? ⟨G, M * 4 + 3, none⟩ = some (.slice Bd (d : List UInt8).length cB) := (World.cell?_alloc_old (wr.drewN 0) (.cells #[] 0) ⟨G, M * 4 + 3, none⟩ (Nat.ne_of_lt hG2)).symm.trans (HCD.out 0 (.cells #[] 0))
              have HNE : Hid (∀ q, blkOf Bd = some q → q ≠ G) := Lib.hid fun q hq e => hq4 q hq (by rw [e]; rfl)
              have HQ4 := Lib.hid hq4
              clear hq1 hq2 hq3 hq4 hl
              go_region_law
                (first
                  | (go_loud (refine step_app _ (by rfl) _ _ _ (by rfl) elemU8 w.heap.size Bd (d : List UInt8).length cB _ (by rfl) (HMO.out _ _).2.2 (some ⟨wr.heap.size, 0, none⟩) 1 1 [.int .u8 (x.toNat : Int)] (by rfl) (by rfl) (Cells.newAt _ _ _ (by first | rfl | (simp; done))) (by simp [Value.oneCell']) (by first | omega | (simp; done) | (simp; omega)) (by unfold maxLen; first | omega | (simp; done) | (simp; omega)) (HBX.out _ _) ?_; intro A5 c5 w5 hO5 hg5; have x5 := (hg5.cell (b := G) (M * 4 + 3) (HSX.out _ _) HNE.out).trans (HCD.out _ _); have x6 := (hg5.frozen (b := G) (M * 4 + 3) (HSX.out _ _) HNE.out).trans (HFD.out _ _)))
                  | fail)
              all_goals
                have HDD := Lib.hid (DOpen.more (d := d) HL0.out (HMO.out _ _).1 (HMO.out _ _).2.1 HQ4.out hg5 hO5)
                have hB5 : Below w.heap.size w w5 := Grew.step (balloc (bdrewN hBT _) _) hg5 (fun q hq => ((HMO.out 0 (.cells #[] 0)).2.2.lt q hq).1)
                have hB6 : Below w.heap.size w (w5.setCell ⟨G, M * 4 + 3, none⟩ (.slice A5 ((d : List UInt8).length + 1) c5)) := hB5.setCell (p := ⟨G, _, none⟩) hG1 _
                clear hg5 hO5 x5 x6 HMO HSX HBX HCD HFD hcD hc3 hB5
                go_wp2
                go_roundw
                case rel => exact ⟨k + 1, M + 1, c', some ⟨G, 0, none⟩, false, by go_num, rfl, rfl, by omega, Lib.hid (.inr ⟨rfl, L, d ++ [x], by rw [← HL0.out], by omega, by simp <;> omega, HDD.out, HEQ.out⟩), hB6⟩
                case measure => simp [intOf]; omega
    · obtain rfl : k = n.length := by omega
      obtain ⟨L, rfl, hL, hE⟩ := HD.out.fin
      have HE := Lib.hid hE
      have HL := Lib.hid hL
      clear hE hL
      go_wp2
      go_ret2
      exact ⟨A', c', by rw [HE.out]; rfl, by rw [HE.out]; exact HL.out.rep (Nat.le_refl _), hB⟩
end Go.Proofs.Ytedbidblnjajdaa
