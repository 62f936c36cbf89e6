/- Package bucket: the reference of Play, and the walk of the law BucketPlays. No condition. -/
import Derived.Test.YtdjdjjbcmlnecaaBucket2
namespace Go.Proofs.Ytdjdjjbcmlnecaa
open Go.RowKit

theorem bool_at {w : World} {base : Nat} {e : TypeId} {A : Option Addr} {n c k : Nat} {l : List Bool} {x : Bool} (h : Own w base e 1 A n c (l.map Value.bool)) (hx : l[k]? = some x) : ∃ g, A = some ⟨g, 0, none⟩ ∧ base ≤ g ∧ g < w.heap.size ∧ w.cell? ⟨g, k, none⟩ = some (.bool x) :=
  h.cell (j := k) (by rw [List.getElem?_map, hx]; rfl)

set_option maxRecDepth 100000 in
set_option maxHeartbeats 4000000 in
theorem ref_Bucket_any (r b : Int) (h1 : 0 ≤ r) (h2 : r ≤ 1000) (h3 : 0 ≤ b) (h4 : b ≤ 100000) (l : List Packet) (A : Option Addr) (c : Nat) (w : World) (hl : SlRep Packet.rep w (· < w.heap.size) l A c) (hn : l.length ≤ 300) (m : Nat) (hm : m ≤ l.length) (hv : bkt.Valid l m) (hver : bkt.Verdict l m) :
    Calls Try.prog 34 #[.int .i64 r, .int .i64 b, .slice A l.length c] w (BktPost r b l m w) := by
  have HL := Lib.hid hl
  have HV := Lib.hid hv
  clear hl hv
  go_enter Try.func34, Try.ntmps34
  go_wp2
  go_loopw [36] (fun i wr => ∃ k : Nat, k ≤ m ∧ i = .int .i64 k ∧ Below w.heap.size w wr) (fun i _ => l.length - (intOf i).toNat)
  case atStart => exact ⟨0, Nat.zero_le _, rfl, Below.refl _ _⟩
  case round =>
    obtain ⟨k, hk, rfl, hB⟩ := hrel
    by_cases hlt : k < m
    · have hltl : k < l.length := by omega
      obtain ⟨bb, o, rfl, hbb, hc1, hc2⟩ := Packet.cells_at bkt.z (HL.out.below hB) hltl
      rename_i wr _
      have hbw : bb < wr.heap.size := Nat.lt_of_lt_of_le hbb hB.size
      have hok := (HV.out k hlt).1
      have hold := (HV.out k hlt).2
      have hlast : 0 < k → wr.cell? ⟨bb, o + (k - 1) * 2, none⟩ = some (.int .i64 (bkt.lastOf l k)) := fun h0 => by
        obtain ⟨b', o', hbo, _, hd, _⟩ := Packet.cells_at bkt.z (k := k - 1) (HL.out.below hB) (by omega)
        simp only [Option.some.injEq, Addr.mk.injEq, and_true] at hbo
        obtain ⟨rfl, rfl⟩ := hbo
        rw [hd]
        unfold bkt.lastOf
        rw [if_neg (by omega)]
        rfl
      unfold bkt.OkAt bkt.OldAt at *
      change wr.cell? ⟨bb, o + k * 2, none⟩ = some (.int .i64 (bkt.at' l k)) at hc1
      change wr.cell? ⟨bb, o + k * 2 + 1, none⟩ = some (.int .i64 (bkt.sz l k)) at hc2
      clear HL HV
      generalize bkt.at' l k = x at *
      generalize bkt.sz l k = y at *
      generalize bkt.lastOf l k = e at *
      by_cases c0 : k = 0
      · subst c0
        clear hlast hold
        simp only [Nat.zero_mul, Nat.add_zero] at hc1 hc2
        go_wp2
        go_quiet (fail)
        go_wp2
        go_roundw
        case rel => exact ⟨0 + 1, by omega, by go_num, (by repeat (first | (with_reducible exact Below.refl _ _) | (with_reducible assumption) | (with_reducible refine bset ?_ ?_ _) | (with_reducible refine balloc ?_ _) | (with_reducible refine Below.drew ?_) | (with_reducible refine bdrewN ?_ _) | (with_reducible refine bnext ?_ (by with_reducible assumption)) | exact Nat.le_refl _ | (simp; done) | omega | (simp; omega)))⟩
        case measure => simp [intOf]; omega
      · have c0' : 0 < k := by omega
        have hl2 := hlast c0'
        clear hlast
        have hle : e ≤ x := by omega
        clear hold
        have c0i : (0 : Int) < (k : Int) := by omega
        have hki : (k : Int) - 1 < (l.length : Int) := by omega
        have hki0 : 0 ≤ (k : Int) - 1 := by omega
        go_wp2
        go_quiet (fail)
        go_wp2
        go_roundw
        case rel => exact ⟨k + 1, by omega, by go_num, (by repeat (first | (with_reducible exact Below.refl _ _) | (with_reducible assumption) | (with_reducible refine bset ?_ ?_ _) | (with_reducible refine balloc ?_ _) | (with_reducible refine Below.drew ?_) | (with_reducible refine bdrewN ?_ _) | (with_reducible refine bnext ?_ (by with_reducible assumption)) | exact Nat.le_refl _ | (simp; done) | omega | (simp; omega)))⟩
        case measure => simp [intOf]; omega
    · obtain rfl : k = m := by omega
      cases hver with
      | well h =>
        subst h
        go_wp2
        go_loopw [10, 75] (fun out i wr => ∃ (k : Nat) (A' : Option Addr) (c' : Nat), k ≤ l.length ∧ i = .int .i64 k ∧ out = .slice A' k c' ∧ Hid (Own wr w.heap.size 4 1 A' k c' ((bkt.passTo r b l k).map Value.bool)) ∧ Below w.heap.size w wr) (fun _ i _ => l.length - (intOf i).toNat)
        case atStart => exact ⟨0, none, 0, Nat.zero_le _, rfl, rfl, Lib.hid (Own.nil _ _ _ _), hB⟩
        case round =>
          clear hB
          obtain ⟨i, A', c', hi, rfl, rfl, HO, hB⟩ := hrel
          by_cases hlt : i < l.length
          · obtain ⟨bb, o, rfl, hbb, hc1, hc2⟩ := Packet.cells_at bkt.z (HL.out.below hB) hlt
            rename World => wo
            have hbw : bb < wo.heap.size := Nat.lt_of_lt_of_le hbb hB.size
            have hsz := hB.size
            have HPass : Hid (∀ B, decide (bkt.sz l i ≤ bkt.credit r b l i) = B → (bkt.passTo r b l (i + 1)).map Value.bool = (bkt.passTo r b l i).map Value.bool ++ [.bool B]) := Lib.hid (fun B hB => by
              rw [bkt.passTo, List.map_append]
              simp only [bkt.pass, hB, List.map_cons, List.map_nil])
            have HRC := Lib.hid (bkt.ref_credit r b l i)
            have hcrb : bkt.credit r b l i ≤ b ∧ -1000000 ≤ bkt.credit r b l i := by
              have := bkt.ref_bd r b l h1 h2 HV.out hlt i (Nat.le_refl _)
              rw [HRC.out] at this
              omega
            have hok := (HV.out i hlt).1
            unfold bkt.OkAt at hok
            have HAT : Hid (∀ d, d < i → bkt.OkAt l (i - d - 1) ∧ 0 ≤ r * (bkt.at' l i - bkt.at' l (i - d - 1)) ∧ r * (bkt.at' l i - bkt.at' l (i - d - 1)) ≤ 1048576000) := Lib.hid (fun d hd => by
              have hm := HV.out.at_mono (d + 1) i hlt (by omega)
              have ho := (HV.out i hlt).1
              have ho' := (HV.out (i - (d + 1)) (by omega)).1
              have ho2 := ho'
              unfold bkt.OkAt at ho ho'
              have hb := bkt.mul_bd h1 h2 hm (by omega) (by omega)
              rw [show i - (d + 1) = i - d - 1 by omega] at hb ho2
              exact ⟨ho2, hb⟩)
            have HPB : Hid (∀ d, d ≤ i → (0 ≤ bkt.psum r b l i d ∧ bkt.psum r b l i d ≤ 1500 * d) ∧ (b - 1500 * d ≤ bkt.ref r b l i d ∧ bkt.ref r b l i d ≤ b)) := Lib.hid (fun d hd => ⟨bkt.psum_bd r b l HV.out hi d hd, bkt.ref_bd r b l h1 h2 HV.out hlt d hd⟩)
            have HPS0 : Hid (∀ d, bkt.psum r b l i (d + 1) = bkt.psum r b l i d + (if bkt.pass r b l (i - d - 1) = true then bkt.sz l (i - d - 1) else 0)) := Lib.hid (fun d => rfl)
            have HRF0 : Hid (∀ d, bkt.ref r b l i (d + 1) = min (bkt.ref r b l i d) (b + r * (bkt.at' l i - bkt.at' l (i - d - 1)) - bkt.psum r b l i (d + 1))) := Lib.hid (fun d => rfl)
            have HP0 : Hid (bkt.psum r b l i 0 = 0 ∧ bkt.ref r b l i 0 = b) := Lib.hid ⟨rfl, rfl⟩
            have HBA : Hid (∀ j, j < i → ∃ g, A' = some ⟨g, 0, none⟩ ∧ w.heap.size ≤ g ∧ g < wo.heap.size ∧ wo.cell? ⟨g, j, none⟩ = some (.bool (bkt.pass r b l j))) := Lib.hid (fun j hj => bool_at HO.out (bkt.passTo_at r b l i j hj))
            have HLC : Hid (∀ j, j < i → wo.cell? ⟨bb, o + j * 2, none⟩ = some (.int .i64 (bkt.at' l j)) ∧ wo.cell? ⟨bb, o + j * 2 + 1, none⟩ = some (.int .i64 (bkt.sz l j))) := Lib.hid (fun j hj => by
              obtain ⟨b', o', hbo, _, hd, he⟩ := Packet.cells_at bkt.z (k := j) (HL.out.below hB) (by omega)
              simp only [Option.some.injEq, Addr.mk.injEq, and_true] at hbo
              obtain ⟨rfl, rfl⟩ := hbo
              exact ⟨hd, he⟩)
            change wo.cell? ⟨bb, o + i * 2, none⟩ = some (.int .i64 (bkt.at' l i)) at hc1
            change wo.cell? ⟨bb, o + i * 2 + 1, none⟩ = some (.int .i64 (bkt.sz l i)) at hc2
            generalize bkt.at' l i = x at *
            generalize bkt.sz l i = y at *
            generalize bkt.credit r b l i = cc at *
            have hil : (i : Int) ≤ 300 := by omega
            go_wp2
            go_loopw [13, 14, 15] (fun cr ps kk wr => ∃ d n : Nat, d ≤ i ∧ kk = .int .i64 ((i : Int) - 1 - d) ∧ ps = .int .i64 (bkt.psum r b l i d) ∧ cr = .int .i64 (bkt.ref r b l i d) ∧ wr = (wo.alloc (.cells #[.int .i64 x, .int .i64 y] 66)).drewN n) (fun _ _ kk _ => (intOf kk + 1).toNat)
            case atStart => exact ⟨0, 0, Nat.zero_le _, by go_num, by rw [HP0.out.1], by rw [HP0.out.2], rfl⟩
            case round =>
              obtain ⟨d, n, hd, rfl, rfl, rfl, rfl⟩ := hrel
              have hbd := HPB.out d hd
              by_cases hdl : d < i
              · obtain ⟨j, hj⟩ : ∃ j : Nat, i - d - 1 = j := ⟨_, rfl⟩
                have hji : j < i := by omega
                have eji : (i : Int) - 1 - d = (j : Int) := by omega
                have hat := HAT.out d hdl
                have hbd2 := (HPB.out (d + 1) (by omega)).1
                have HPS := Lib.hid (HPS0.out d)
                have HRF := Lib.hid (HRF0.out d)
                obtain ⟨g, rfl, hg1, hg2, hgc⟩ := HBA.out j hji
                obtain ⟨hl1, hl2⟩ := HLC.out j hji
                unfold bkt.OkAt at hat
                rw [hj] at hat HPS HRF
                rw [HPS.out] at HRF hbd2
                rw [eji]
                have hjl : (j : Int) < (l.length : Int) := by omega
                have hji2 : (j : Int) < (i : Int) := by omega
                have EJ := Lib.hid eji
                clear eji hj HAT HPB HPS0 HRF0 HP0 HBA HLC HPass HRC HL HV HO
                generalize bkt.at' l j = aj at *
                generalize bkt.sz l j = sj at *
                generalize bkt.psum r b l i d = ps at *
                generalize bkt.ref r b l i d = rf at *
                generalize bkt.pass r b l j = pj at *
                cases pj with
                | true =>
                  simp only [if_true] at HPS HRF hbd2
                  have hw1 : IntKind.i64.wrap (x - aj) = x - aj := IntWalk.i64_in _ (by omega)
                  have hw2 : IntKind.i64.wrap (r * (x - aj)) = r * (x - aj) := IntWalk.i64_in _ (by omega)
                  have hw3 : IntKind.i64.wrap (b + r * (x - aj)) = b + r * (x - aj) := IntWalk.i64_in _ (by omega)
                  have hw4 : IntKind.i64.wrap (b + r * (x - aj) - (ps + sj)) = b + r * (x - aj) - (ps + sj) := IntWalk.i64_in _ (by omega)
                  by_cases cm : b + r * (x - aj) - (ps + sj) < rf
                  · go_wp2
                    go_quiet (fail)
                    clear hw1 hw2 hw3 hw4
                    go_wp2
                    go_roundw
                    case rel => exact ⟨d + 1, _, by omega, by rw [← EJ.out]; congr 1; omega, by rw [HPS.out], by rw [HRF.out]; congr 1; omega, rfl⟩
                    case measure => simp [intOf] <;> omega
                  · go_wp2
                    go_quiet (fail)
                    clear hw1 hw2 hw3 hw4
                    go_wp2
                    go_roundw
                    case rel => exact ⟨d + 1, _, by omega, by rw [← EJ.out]; congr 1; omega, by rw [HPS.out], by rw [HRF.out]; congr 1; omega, rfl⟩
                    case measure => simp [intOf] <;> omega
                | false =>
                  simp only [Bool.false_eq_true, if_false, Int.add_zero] at HPS HRF hbd2
                  have hw1 : IntKind.i64.wrap (x - aj) = x - aj := IntWalk.i64_in _ (by omega)
                  have hw2 : IntKind.i64.wrap (r * (x - aj)) = r * (x - aj) := IntWalk.i64_in _ (by omega)
                  have hw3 : IntKind.i64.wrap (b + r * (x - aj)) = b + r * (x - aj) := IntWalk.i64_in _ (by omega)
                  have hw4 : IntKind.i64.wrap (b + r * (x - aj) - ps) = b + r * (x - aj) - ps := IntWalk.i64_in _ (by omega)
                  by_cases cm : b + r * (x - aj) - ps < rf
                  · go_wp2
                    go_quiet (fail)
                    clear hw1 hw2 hw3 hw4
                    go_wp2
                    go_roundw
                    case rel => exact ⟨d + 1, _, by omega, by rw [← EJ.out]; congr 1; omega, by rw [HPS.out], by rw [HRF.out]; congr 1; omega, rfl⟩
                    case measure => simp [intOf] <;> omega
                  · go_wp2
                    go_quiet (fail)
                    clear hw1 hw2 hw3 hw4
                    go_wp2
                    go_roundw
                    case rel => exact ⟨d + 1, _, by omega, by rw [← EJ.out]; congr 1; omega, by rw [HPS.out], by rw [HRF.out]; congr 1; omega, rfl⟩
                    case measure => simp [intOf] <;> omega
              · obtain rfl : d = i := by omega
                rw [HRC.out]
                clear HAT HPB HPS0 HRF0 HP0 HBA HLC HRC HL HV
                by_cases cp : y ≤ cc
                · have HP := Lib.hid (HPass.out true (by simp; exact cp))
                  clear HPass
                  go_wp2_with (at_builtin; refine wp_app _ rfl _ _ _ rfl elemBool w.heap.size A' _ c' _ rfl (((HO.out.alloc _).drewN _).alloc _) _ 1 1 [.bool true] rfl rfl (Cells.newAt _ _ _ (by simp)) (by simp [Value.oneCell']) (by omega) (by unfold maxLen; omega) (by simp; omega) ?_; intro A2 c2 w2 hO2 hg2; have HO3 := Lib.hid hO2; clear hO2)
                  go_roundw
                  case rel => exact ⟨d + 1, A2, c2, by omega, by go_num, rfl, Lib.hid (by rw [HP.out]; exact HO3.out), Grew.step (balloc (bdrewN (balloc hB _) _) _) hg2 (fun g hg => (HO.out.lt g hg).1)⟩
                  case measure => simp [intOf]; omega
                · have cp' : cc < y := by omega
                  have cpd : decide (y ≤ cc) = false := by simp; omega
                  have HP := Lib.hid (HPass.out false (by simp; omega))
                  clear HPass
                  go_wp2_with (at_builtin; refine wp_app _ rfl _ _ _ rfl elemBool w.heap.size A' _ c' _ rfl (((HO.out.alloc _).drewN _).alloc _) _ 1 1 [.bool false] rfl rfl (Cells.newAt _ _ _ (by simp)) (by simp [Value.oneCell']) (by omega) (by unfold maxLen; omega) (by simp; omega) ?_; intro A2 c2 w2 hO2 hg2; have HO3 := Lib.hid hO2; clear hO2)
                  go_roundw
                  case rel => exact ⟨d + 1, A2, c2, by omega, by go_num, rfl, Lib.hid (by rw [HP.out]; exact HO3.out), Grew.step (balloc (bdrewN (balloc hB _) _) _) hg2 (fun g hg => (HO.out.lt g hg).1)⟩
                  case measure => simp [intOf]; omega
          · obtain rfl : i = l.length := by omega
            clear HL HV
            go_wp2
            go_ret2
            exact BktPost.well hB ⟨A', c', rfl, HO.out⟩
      | range hltl h1' =>
        clear HV
        obtain ⟨bb, o, rfl, hbb, hc1, hc2⟩ := Packet.cells_at bkt.z (HL.out.below hB) hltl
        rename_i wr _
        have hbw : bb < wr.heap.size := Nat.lt_of_lt_of_le hbb hB.size
        have HF := Lib.hid (fun (e : Ending) (w' : World) (hB : Below w.heap.size w w') (he : e = .returned (.tuple #[.slice none 0 0, .int .i64 2])) => BktPost.range (r := r) (b := b) hB hltl h1' he)
        unfold bkt.OkAt at h1'
        change wr.cell? ⟨bb, o + k * 2, none⟩ = some (.int .i64 (bkt.at' l k)) at hc1
        change wr.cell? ⟨bb, o + k * 2 + 1, none⟩ = some (.int .i64 (bkt.sz l k)) at hc2
        clear HL
        generalize bkt.at' l k = x at *
        generalize bkt.sz l k = y at *
        by_cases hx : 0 ≤ x
        · by_cases hx2 : x ≤ 1048576
          · by_cases hy : 1 ≤ y
            · have hy2 : 1500 < y := by omega
              clear h1'
              go_wp2
              go_ret2
              exact HF.out _ _ (balloc hB _) rfl
            · clear h1'
              go_wp2
              go_ret2
              exact HF.out _ _ (balloc hB _) rfl
          · clear h1'
            go_wp2
            go_ret2
            exact HF.out _ _ (balloc hB _) rfl
        · clear h1'
          go_wp2
          go_ret2
          exact HF.out _ _ (balloc hB _) rfl
      | old hltl h1' h2' =>
        clear HV
        obtain ⟨bb, o, rfl, hbb, hc1, hc2⟩ := Packet.cells_at bkt.z (HL.out.below hB) hltl
        rename_i wr _
        have hbw : bb < wr.heap.size := Nat.lt_of_lt_of_le hbb hB.size
        have HF := Lib.hid (fun (e : Ending) (w' : World) (hB : Below w.heap.size w w') (he : e = .returned (.tuple #[.slice none 0 0, .int .i64 17])) => BktPost.old (r := r) (b := b) hB hltl h1' he)
        unfold bkt.OkAt at h1'
        unfold bkt.OldAt at h2'
        obtain ⟨k0, hold⟩ := h2'
        have hl2 : wr.cell? ⟨bb, o + (k - 1) * 2, none⟩ = some (.int .i64 (bkt.lastOf l k)) := by
          obtain ⟨b', o', hbo, _, hd, _⟩ := Packet.cells_at bkt.z (k := k - 1) (HL.out.below hB) (by omega)
          simp only [Option.some.injEq, Addr.mk.injEq, and_true] at hbo
          obtain ⟨rfl, rfl⟩ := hbo
          rw [hd]
          unfold bkt.lastOf
          rw [if_neg (by omega)]
          rfl
        change wr.cell? ⟨bb, o + k * 2, none⟩ = some (.int .i64 (bkt.at' l k)) at hc1
        change wr.cell? ⟨bb, o + k * 2 + 1, none⟩ = some (.int .i64 (bkt.sz l k)) at hc2
        clear HL
        generalize bkt.at' l k = x at *
        generalize bkt.sz l k = y at *
        generalize bkt.lastOf l k = e at *
        have c0i : (0 : Int) < (k : Int) := by omega
        have hki : (k : Int) - 1 < (l.length : Int) := by omega
        have hki0 : 0 ≤ (k : Int) - 1 := by omega
        go_wp2
        go_quiet (fail)
        go_wp2
        go_ret2
        exact HF.out _ _ (by repeat (first | (with_reducible exact Below.refl _ _) | (with_reducible assumption) | (with_reducible refine bset ?_ ?_ _) | (with_reducible refine balloc ?_ _) | (with_reducible refine Below.drew ?_) | (with_reducible refine bdrewN ?_ _) | (with_reducible refine bnext ?_ (by with_reducible assumption)) | exact Nat.le_refl _ | (simp; done) | omega | (simp; omega))) rfl
end Go.Proofs.Ytdjdjjbcmlnecaa
