/- Package lz: the reference of Parse. No condition. -/
import Derived.Test.YtedbidblnjajdaaLz6
namespace Go.Proofs.Ytedbidblnjajdaa
open Go.RowKit

theorem lzq.best_at (l : List UInt8) (a : Nat) {D : Nat} (h : 1 ≤ D) : lzq.best l a D = if (lzq.best l a (D - 1)).2 < lzq.run l (a - D) a then (D, lzq.run l (a - D) a) else lzq.best l a (D - 1) := by
  obtain ⟨d, rfl⟩ : ∃ d, D = d + 1 := ⟨D - 1, by omega⟩
  rfl
theorem lzq.tok_best (l : List UInt8) (a : Nat) : (lzq.best l a (min 255 a)).1 = 0 ∧ lzq.tok l a = ⟨l.getD a 0, 0, 0⟩ ∧ lzq.wide l a = 1 ∨
    (lzq.best l a (min 255 a)).1 ≠ 0 ∧ 3 ≤ (lzq.best l a (min 255 a)).2 ∧ lzq.tok l a = ⟨0, (lzq.best l a (min 255 a)).1, (lzq.best l a (min 255 a)).2⟩ ∧ lzq.wide l a = (lzq.best l a (min 255 a)).2 := by
  rcases lzq.best_two l a (min 255 a) with ⟨h1, h2⟩ | ⟨h1, h2, h3, h4, h5⟩
  · exact .inl ⟨h1, by simp [lzq.tok, h1], by simp [lzq.wide, h1]⟩
  · exact .inr ⟨by omega, h3, by simp only [lzq.tok]; rw [if_neg (by omega)], by simp only [lzq.wide]; rw [if_neg (by omega)]⟩

set_option maxRecDepth 100000 in
set_option maxHeartbeats 4000000 in
theorem ref_LzParsed_ok (l : List UInt8) (A : Option Addr) (c : Nat) (w : World) (hl : SlRep Rep.u8 w (· < w.heap.size) l A c) (hn : l.length ≤ 4096) :
    Calls Try.prog 27 #[.slice A l.length c] w (TokRes (lzq.toks l 0) 0 w) := by
  have HL := Lib.hid hl
  clear hl
  go_enter Try.func27, Try.ntmps27
  go_wp2
  go_loopw [4, 5] (fun out at_ wr => ∃ (k : Nat) (o : List Token) (A' : Option Addr) (c' : Nat), at_ = .int .i64 k ∧ out = .slice A' o.length c' ∧ k ≤ l.length ∧ o.length ≤ k ∧ Hid (o ++ lzq.toks l k = lzq.toks l 0) ∧ Hid (Own wr w.heap.size 43 3 A' o.length c' (o.flatMap Token.cells)) ∧ Below w.heap.size w wr) (fun _ at_ _ => l.length - (intOf at_).toNat)
  case atStart => exact ⟨0, [], none, 0, rfl, rfl, by omega, by simp, Lib.hid rfl, Lib.hid (Own.nil _ _ _ _), bself w⟩
  case round =>
    obtain ⟨k, o, A', c', rfl, rfl, hk, hok, HT, HO, hB⟩ := hrel
    rename World => wr
    have hszr := hB.size
    by_cases hlt : k < l.length
    · have hlti : (k : Int) < (l.length : Int) := by omega
      have HLr : Hid (SlRep Rep.u8 wr (· < w.heap.size) l A c) := Lib.hid (HL.out.keep fun q hq => ⟨hq, hB.block q hq⟩)
      have HTM := Lib.hid (lzq.toks_more hlt)
      have HW := Lib.hid (lzq.wide_pos l k hlt)
      obtain ⟨bb, oo, rfl, hbb, hcb⟩ := u8_at HLr.out hlt
      have hbw : bb < wr.heap.size := Nat.lt_of_lt_of_le hbb hszr
      have HX := Lib.hid (lzq.tok_best l k)
      go_wp2
      go_loopw [6, 7, 8] (fun di mo d wq => ∃ D m : Nat, d = .int .i64 D ∧ di = .int .i64 ((lzq.best l k (D - 1)).1 : Nat) ∧ mo = .int .i64 ((lzq.best l k (D - 1)).2 : Nat) ∧ 1 ≤ D ∧ D ≤ 256 ∧ D ≤ k + 1 ∧ wq = wr.drewN m) (fun _ _ d _ => 257 - (intOf d).toNat)
      case atStart => exact ⟨1, 0, rfl, rfl, rfl, by omega, by omega, by omega, rfl⟩
      case round =>
        obtain ⟨D, m, rfl, rfl, rfl, hD1, hD2, hD3, rfl⟩ := hrel
        by_cases hD4 : D ≤ 255
        · have hD4i : (D : Int) ≤ 255 := by omega
          by_cases hD5 : D ≤ k
          · have hD5i : (D : Int) ≤ (k : Int) := by omega
            have HBA := Lib.hid (lzq.best_at l k hD1)
            have HR0 := Lib.hid (lzq.best_two l k (D - 1))
            clear HX HT HO HTM HW
            generalize lzq.best l k (D - 1) = s at *
            go_wp2
            go_loopw [9] (fun i wq => ∃ n m : Nat, n ≤ 200 ∧ k + n ≤ l.length ∧ i = .int .i64 n ∧ wq = wr.drewN m ∧ Hid (lzq.upto l (k - D) k n)) (fun i _ => 200 - (intOf i).toNat)
            case atStart => exact ⟨0, _, by omega, by omega, rfl, rfl, Lib.hid (lzq.upto_zero l (k - D) k)⟩
            case round =>
              obtain ⟨n, m, hn2, hn3, rfl, rfl, HU⟩ := hrel
              by_cases h1 : n < 200
              · have h1i : (n : Int) < 200 := by omega
                by_cases h2 : k + n < l.length
                · have h2i : (k : Int) + (n : Int) < (l.length : Int) := by omega
                  obtain ⟨b, o', e, _, hc1⟩ := u8_at HLr.out (show (k - D) + n < l.length by omega)
                  simp only [Option.some.injEq, Addr.mk.injEq, and_true] at e
                  obtain ⟨rfl, rfl⟩ := e
                  obtain ⟨b, o', e, _, hc2⟩ := u8_at HLr.out h2
                  simp only [Option.some.injEq, Addr.mk.injEq, and_true] at e
                  obtain ⟨rfl, rfl⟩ := e
                  have HS := Lib.hid (fun h => lzq.upto_succ HU.out h1 h2 (by omega) h)
                  have HY := Lib.hid (fun h => lzq.upto_ne HU.out h1 h2 (by omega) h)
                  obtain ⟨p, hp⟩ : ∃ p, p = (k - D) + n := ⟨_, rfl⟩
                  obtain ⟨r, hr⟩ : ∃ r, r = k + n := ⟨_, rfl⟩
                  rw [← hp, ← hr] at HS HY
                  rw [← hp] at hc1
                  rw [← hr] at hc2
                  have e2 : (k : Int) + (n : Int) = (r : Int) := by omega
                  have e1 : (r : Int) - (D : Int) = (p : Int) := by omega
                  have h3i : (p : Int) < (l.length : Int) := by omega
                  have h4i : (r : Int) < (l.length : Int) := by omega
                  have hle : k + (n + 1) ≤ l.length := by omega
                  have hr4 : (r : Int) ≤ 4096 := by omega
                  rw [e2] at h2i
                  clear hp hr HU hcb
                  by_cases h3 : l.getD p 0 = l.getD r 0
                  · have HU2 := Lib.hid (HS.out h3)
                    rw [h3] at hc1
                    clear HS HY h3
                    generalize l.getD r 0 = x at *
                    go_wp2
                    go_quiet (fail)
                    go_wp2
                    go_roundw
                    case rel => exact ⟨n + 1, _, by omega, hle, by go_num, rfl, HU2⟩
                    case measure => simp [intOf]; omega
                  · have HR := Lib.hid (HY.out h3)
                    have hq := u8_ne h3
                    clear HS HY h3
                    generalize l.getD r 0 = x at *
                    generalize l.getD p 0 = y at *
                    by_cases hgt : s.2 < n
                    · have hgi : (s.2 : Int) < (n : Int) := by omega
                      have HBB : Hid (lzq.best l k D = (D, n)) := Lib.hid (by rw [HBA.out, HR.out, if_pos hgt])
                      clear HBA HR HR0
                      go_wp2
                      go_quiet (fail)
                      go_wp2
                      go_roundw
                      case rel => exact ⟨D + 1, _, by go_num, by rw [Nat.add_sub_cancel, HBB.out]; try rfl, by rw [Nat.add_sub_cancel, HBB.out]; try rfl, by omega, by omega, by omega, by first | rfl | exact drewN_add _ _ _⟩
                      case measure => simp [intOf]; omega
                    · have hgi : ¬ (s.2 : Int) < (n : Int) := by omega
                      have HBB : Hid (lzq.best l k D = s) := Lib.hid (by rw [HBA.out, HR.out, if_neg hgt])
                      clear HBA HR HR0
                      go_wp2
                      go_quiet (fail)
                      go_wp2
                      go_roundw
                      case rel => exact ⟨D + 1, _, by go_num, by rw [Nat.add_sub_cancel, HBB.out]; try rfl, by rw [Nat.add_sub_cancel, HBB.out]; try rfl, by omega, by omega, by omega, by first | rfl | exact drewN_add _ _ _⟩
                      case measure => simp [intOf]; omega
                · have h2i : (l.length : Int) ≤ (k : Int) + (n : Int) := by omega
                  have h2d : decide ((k : Int) + (n : Int) < (l.length : Int)) = false := by simp; omega
                  have HR := Lib.hid (lzq.upto_end HU.out (by omega))
                  clear HU hcb
                  by_cases hgt : s.2 < n
                  · have hgi : (s.2 : Int) < (n : Int) := by omega
                    have HBB : Hid (lzq.best l k D = (D, n)) := Lib.hid (by rw [HBA.out, HR.out, if_pos hgt])
                    clear HBA HR HR0
                    go_wp2
                    go_quiet (fail)
                    go_wp2
                    go_roundw
                    case rel => exact ⟨D + 1, _, by go_num, by rw [Nat.add_sub_cancel, HBB.out]; try rfl, by rw [Nat.add_sub_cancel, HBB.out]; try rfl, by omega, by omega, by omega, by first | rfl | exact drewN_add _ _ _⟩
                    case measure => simp [intOf]; omega
                  · have hgi : ¬ (s.2 : Int) < (n : Int) := by omega
                    have HBB : Hid (lzq.best l k D = s) := Lib.hid (by rw [HBA.out, HR.out, if_neg hgt])
                    clear HBA HR HR0
                    go_wp2
                    go_quiet (fail)
                    go_wp2
                    go_roundw
                    case rel => exact ⟨D + 1, _, by go_num, by rw [Nat.add_sub_cancel, HBB.out]; try rfl, by rw [Nat.add_sub_cancel, HBB.out]; try rfl, by omega, by omega, by omega, by first | rfl | exact drewN_add _ _ _⟩
                    case measure => simp [intOf]; omega
              · obtain rfl : n = 200 := by omega
                have HR := Lib.hid (lzq.upto_far HU.out (by omega))
                clear HU hcb
                by_cases hgt : s.2 < 200
                · have hgi : (s.2 : Int) < (200 : Int) := by omega
                  have HBB : Hid (lzq.best l k D = (D, 200)) := Lib.hid (by rw [HBA.out, HR.out, if_pos hgt])
                  clear HBA HR HR0
                  go_wp2
                  go_quiet (fail)
                  go_wp2
                  go_roundw
                  case rel => exact ⟨D + 1, _, by go_num, by rw [Nat.add_sub_cancel, HBB.out]; try rfl, by rw [Nat.add_sub_cancel, HBB.out]; try rfl, by omega, by omega, by omega, by first | rfl | exact drewN_add _ _ _⟩
                  case measure => simp [intOf]; omega
                · have hgi : ¬ (s.2 : Int) < (200 : Int) := by omega
                  have HBB : Hid (lzq.best l k D = s) := Lib.hid (by rw [HBA.out, HR.out, if_neg hgt])
                  clear HBA HR HR0
                  go_wp2
                  go_quiet (fail)
                  go_wp2
                  go_roundw
                  case rel => exact ⟨D + 1, _, by go_num, by rw [Nat.add_sub_cancel, HBB.out]; try rfl, by rw [Nat.add_sub_cancel, HBB.out]; try rfl, by omega, by omega, by omega, by first | rfl | exact drewN_add _ _ _⟩
                  case measure => simp [intOf]; omega
          · have hD5i : ¬ (D : Int) ≤ (k : Int) := by omega
            have HM : Hid (lzq.best l k (D - 1) = lzq.best l k (min 255 k)) := Lib.hid (by rw [show D - 1 = min 255 k by omega])
            have hX := HX.out
            have hwl := HW.out
            rw [← HM.out] at hX
            clear HM HX HW
            generalize lzq.best l k (D - 1) = s at *
            generalize l.getD k 0 = x at *
            rcases hX with ⟨hs, hT, hwd⟩ | ⟨hs, hs3, hT, hwd⟩
            · have hs0 : (((s.1 : Nat) : Int) == 0) = true := by rw [beq_iff_eq]; omega
              rw [hwd] at HTM hwl
              rw [hT] at HTM
              have HTT : Hid ((o ++ [(⟨x, 0, 0⟩ : Token)]) ++ lzq.toks l (k + 1) = lzq.toks l 0) := Lib.hid (by rw [List.append_assoc, List.singleton_append, ← HTM.out]; exact HT.out)
              have HV : Hid (o.flatMap Token.cells ++ [.int .u8 (x.toNat : Int), .int .i64 0, .int .i64 0] = (o ++ [(⟨x, 0, 0⟩ : Token)]).flatMap Token.cells) := Lib.hid (by rw [List.flatMap_append]; rfl)
              have HNL : Hid ((o ++ [(⟨x, 0, 0⟩ : Token)]).length = o.length + 1) := Lib.hid (by simp)
              clear hT hwd HTM HT
              go_wp2_with (first
                | (at_builtin; refine wp_app _ rfl _ _ _ rfl elemTok w.heap.size A' _ c' _ rfl (((HO.out.drewN _)).alloc _) _ 1 1 [.int .u8 (x.toNat : Int), .int .i64 0, .int .i64 0] rfl rfl (Cells.newAt _ _ _ (by simp)) (by simp [Value.oneCell']) (by omega) (by unfold maxLen; omega) (by simp; omega) ?_; intro A3 c3 w3 ho3 hg3; have HO3 := Lib.hid ho3; clear ho3; have hB3 : Below w.heap.size w w3 := Grew.step (by repeat (first | (with_reducible exact Below.refl _ _) | (with_reducible assumption) | (with_reducible refine bset ?_ ?_ _) | (with_reducible refine balloc ?_ _) | (with_reducible refine Below.drew ?_) | (with_reducible refine bdrewN ?_ _) | (with_reducible refine bnext ?_ (by with_reducible assumption)) | exact Nat.le_refl _ | (simp; done) | omega | (simp; omega))) hg3 (fun q hq => (HO.out.lt q hq).1))
                | fail)
              rw [HV.out] at HO3
              go_roundw
              case rel => exact ⟨k + 1, o ++ [⟨x, 0, 0⟩], A3, c3, by go_num, by rw [HNL.out], by omega, by rw [HNL.out]; omega, HTT, by rw [HNL.out]; exact HO3, hB3⟩
              case measure => simp [intOf]; omega
            · have hs0 : (((s.1 : Nat) : Int) == 0) = false := by rw [beq_eq_false_iff_ne]; omega
              have hs2 : (s.2 : Int) ≤ 4096 := by omega
              rw [hwd] at HTM hwl
              rw [hT] at HTM
              have HTT : Hid ((o ++ [(⟨0, s.1, s.2⟩ : Token)]) ++ lzq.toks l (k + s.2) = lzq.toks l 0) := Lib.hid (by rw [List.append_assoc, List.singleton_append, ← HTM.out]; exact HT.out)
              have HV : Hid (o.flatMap Token.cells ++ [.int .u8 0, .int .i64 (s.1 : Nat), .int .i64 (s.2 : Nat)] = (o ++ [(⟨0, s.1, s.2⟩ : Token)]).flatMap Token.cells) := Lib.hid (by rw [List.flatMap_append]; rfl)
              have HNL : Hid ((o ++ [(⟨0, s.1, s.2⟩ : Token)]).length = o.length + 1) := Lib.hid (by simp)
              clear hT hwd HTM HT
              go_wp2_with (first
                | (at_builtin; refine wp_app _ rfl _ _ _ rfl elemTok w.heap.size A' _ c' _ rfl (((HO.out.drewN _)).alloc _) _ 1 1 [.int .u8 0, .int .i64 (s.1 : Nat), .int .i64 (s.2 : Nat)] rfl rfl (Cells.newAt _ _ _ (by simp)) (by simp [Value.oneCell']) (by omega) (by unfold maxLen; omega) (by simp; omega) ?_; intro A3 c3 w3 ho3 hg3; have HO3 := Lib.hid ho3; clear ho3; have hB3 : Below w.heap.size w w3 := Grew.step (by repeat (first | (with_reducible exact Below.refl _ _) | (with_reducible assumption) | (with_reducible refine bset ?_ ?_ _) | (with_reducible refine balloc ?_ _) | (with_reducible refine Below.drew ?_) | (with_reducible refine bdrewN ?_ _) | (with_reducible refine bnext ?_ (by with_reducible assumption)) | exact Nat.le_refl _ | (simp; done) | omega | (simp; omega))) hg3 (fun q hq => (HO.out.lt q hq).1))
                | fail)
              rw [HV.out] at HO3
              go_roundw
              case rel => exact ⟨k + s.2, o ++ [⟨0, s.1, s.2⟩], A3, c3, by go_num, by rw [HNL.out], by omega, by rw [HNL.out]; omega, HTT, by rw [HNL.out]; exact HO3, hB3⟩
              case measure => simp [intOf]; omega
        · have hD4i : ¬ (D : Int) ≤ 255 := by omega
          have HM : Hid (lzq.best l k (D - 1) = lzq.best l k (min 255 k)) := Lib.hid (by rw [show D - 1 = min 255 k by omega])
          have hX := HX.out
          have hwl := HW.out
          rw [← HM.out] at hX
          clear HM HX HW
          generalize lzq.best l k (D - 1) = s at *
          generalize l.getD k 0 = x at *
          rcases hX with ⟨hs, hT, hwd⟩ | ⟨hs, hs3, hT, hwd⟩
          · have hs0 : (((s.1 : Nat) : Int) == 0) = true := by rw [beq_iff_eq]; omega
            rw [hwd] at HTM hwl
            rw [hT] at HTM
            have HTT : Hid ((o ++ [(⟨x, 0, 0⟩ : Token)]) ++ lzq.toks l (k + 1) = lzq.toks l 0) := Lib.hid (by rw [List.append_assoc, List.singleton_append, ← HTM.out]; exact HT.out)
            have HV : Hid (o.flatMap Token.cells ++ [.int .u8 (x.toNat : Int), .int .i64 0, .int .i64 0] = (o ++ [(⟨x, 0, 0⟩ : Token)]).flatMap Token.cells) := Lib.hid (by rw [List.flatMap_append]; rfl)
            have HNL : Hid ((o ++ [(⟨x, 0, 0⟩ : Token)]).length = o.length + 1) := Lib.hid (by simp)
            clear hT hwd HTM HT
            go_wp2_with (first
              | (at_builtin; refine wp_app _ rfl _ _ _ rfl elemTok w.heap.size A' _ c' _ rfl (((HO.out.drewN _)).alloc _) _ 1 1 [.int .u8 (x.toNat : Int), .int .i64 0, .int .i64 0] rfl rfl (Cells.newAt _ _ _ (by simp)) (by simp [Value.oneCell']) (by omega) (by unfold maxLen; omega) (by simp; omega) ?_; intro A3 c3 w3 ho3 hg3; have HO3 := Lib.hid ho3; clear ho3; have hB3 : Below w.heap.size w w3 := Grew.step (by repeat (first | (with_reducible exact Below.refl _ _) | (with_reducible assumption) | (with_reducible refine bset ?_ ?_ _) | (with_reducible refine balloc ?_ _) | (with_reducible refine Below.drew ?_) | (with_reducible refine bdrewN ?_ _) | (with_reducible refine bnext ?_ (by with_reducible assumption)) | exact Nat.le_refl _ | (simp; done) | omega | (simp; omega))) hg3 (fun q hq => (HO.out.lt q hq).1))
              | fail)
            rw [HV.out] at HO3
            go_roundw
            case rel => exact ⟨k + 1, o ++ [⟨x, 0, 0⟩], A3, c3, by go_num, by rw [HNL.out], by omega, by rw [HNL.out]; omega, HTT, by rw [HNL.out]; exact HO3, hB3⟩
            case measure => simp [intOf]; omega
          · have hs0 : (((s.1 : Nat) : Int) == 0) = false := by rw [beq_eq_false_iff_ne]; omega
            have hs2 : (s.2 : Int) ≤ 4096 := by omega
            rw [hwd] at HTM hwl
            rw [hT] at HTM
            have HTT : Hid ((o ++ [(⟨0, s.1, s.2⟩ : Token)]) ++ lzq.toks l (k + s.2) = lzq.toks l 0) := Lib.hid (by rw [List.append_assoc, List.singleton_append, ← HTM.out]; exact HT.out)
            have HV : Hid (o.flatMap Token.cells ++ [.int .u8 0, .int .i64 (s.1 : Nat), .int .i64 (s.2 : Nat)] = (o ++ [(⟨0, s.1, s.2⟩ : Token)]).flatMap Token.cells) := Lib.hid (by rw [List.flatMap_append]; rfl)
            have HNL : Hid ((o ++ [(⟨0, s.1, s.2⟩ : Token)]).length = o.length + 1) := Lib.hid (by simp)
            clear hT hwd HTM HT
            go_wp2_with (first
              | (at_builtin; refine wp_app _ rfl _ _ _ rfl elemTok w.heap.size A' _ c' _ rfl (((HO.out.drewN _)).alloc _) _ 1 1 [.int .u8 0, .int .i64 (s.1 : Nat), .int .i64 (s.2 : Nat)] rfl rfl (Cells.newAt _ _ _ (by simp)) (by simp [Value.oneCell']) (by omega) (by unfold maxLen; omega) (by simp; omega) ?_; intro A3 c3 w3 ho3 hg3; have HO3 := Lib.hid ho3; clear ho3; have hB3 : Below w.heap.size w w3 := Grew.step (by repeat (first | (with_reducible exact Below.refl _ _) | (with_reducible assumption) | (with_reducible refine bset ?_ ?_ _) | (with_reducible refine balloc ?_ _) | (with_reducible refine Below.drew ?_) | (with_reducible refine bdrewN ?_ _) | (with_reducible refine bnext ?_ (by with_reducible assumption)) | exact Nat.le_refl _ | (simp; done) | omega | (simp; omega))) hg3 (fun q hq => (HO.out.lt q hq).1))
              | fail)
            rw [HV.out] at HO3
            go_roundw
            case rel => exact ⟨k + s.2, o ++ [⟨0, s.1, s.2⟩], A3, c3, by go_num, by rw [HNL.out], by omega, by rw [HNL.out]; omega, HTT, by rw [HNL.out]; exact HO3, hB3⟩
            case measure => simp [intOf]; omega
    · obtain rfl : k = l.length := by omega
      have HE : Hid (lzq.toks l 0 = o) := Lib.hid (by rw [← HT.out, lzq.toks_end (Nat.le_refl _), List.append_nil])
      go_wp2
      go_ret2
      exact ⟨A', c', by rw [HE.out]; rfl, by rw [HE.out]; exact HO.out, hB⟩
end Go.Proofs.Ytedbidblnjajdaa
