/- Package bucket: Play, as the plain law tells it. No condition. -/
import Derived.Test.YtdjdjjbcmlnecaaBucket
import Derived.Test.YtdjdjjbcmlnecaaBucketP
import Derived.Test.YtdjdjjbcmlnecaaOwn2
import Derived.LoopTactic
import Derived.Deep.QuietTactic
import Derived.BigQuiet
namespace Go.Proofs.Ytdjdjjbcmlnecaa
open Go.RowKit

theorem elemBool : ElemT Try.prog 49 4 1 1 := ElemT.of Try.underlying49 (z := .bool false) (by kernel_rfl) rfl (by decide)

/-- what Play answers, and the reference -/
def BktPost (r b : Int) (l : List Packet) (m : Nat) (w : World) (e : Ending) (w' : World) : Prop :=
  Below w.heap.size w w' ∧ (m = l.length → ∃ A' c', e = .returned (.tuple #[.slice A' l.length c', .int .i64 0]) ∧ Own w' w.heap.size 4 1 A' l.length c' ((bkt.passTo r b l l.length).map Value.bool)) ∧
  (m < l.length → ¬ bkt.OkAt l m → e = .returned (.tuple #[.slice none 0 0, .int .i64 2])) ∧ (m < l.length → bkt.OkAt l m → bkt.OldAt l m → e = .returned (.tuple #[.slice none 0 0, .int .i64 17]))
theorem BktPost.range {r b : Int} {l : List Packet} {m : Nat} {w w' : World} {e : Ending} (hB : Below w.heap.size w w') (hm : m < l.length) (h1 : ¬ bkt.OkAt l m) (he : e = .returned (.tuple #[.slice none 0 0, .int .i64 2])) : BktPost r b l m w e w' :=
  ⟨hB, fun h => by omega, fun _ _ => he, fun _ h => absurd h h1⟩
theorem BktPost.old {r b : Int} {l : List Packet} {m : Nat} {w w' : World} {e : Ending} (hB : Below w.heap.size w w') (hm : m < l.length) (h1 : bkt.OkAt l m) (he : e = .returned (.tuple #[.slice none 0 0, .int .i64 17])) : BktPost r b l m w e w' :=
  ⟨hB, fun h => by omega, fun _ h => absurd h1 h, fun _ _ _ => he⟩
theorem BktPost.well {r b : Int} {l : List Packet} {w w' : World} {e : Ending} (hB : Below w.heap.size w w') (h : ∃ A' c', e = .returned (.tuple #[.slice A' l.length c', .int .i64 0]) ∧ Own w' w.heap.size 4 1 A' l.length c' ((bkt.passTo r b l l.length).map Value.bool)) : BktPost r b l l.length w e w' :=
  ⟨hB, fun _ => h, fun h => by omega, fun h => by omega⟩

set_option maxHeartbeats 2000000 in
theorem bucket_Play_any (r b : Int) (h1 : 0 ≤ r) (h2 : r ≤ 1000) (h3 : 0 ≤ b) (h4 : b ≤ 100000) (l : List Packet) (A : Option Addr) (c : Nat) (w : World) (hl : SlRep Packet.rep w (· < w.heap.size) l A c) (hn : l.length ≤ 300) (m : Nat) (hm : m ≤ l.length) (hv : bkt.Valid l m) (hver : bkt.Verdict l m) :
    Calls Try.prog 33 #[.int .i64 r, .int .i64 b, .slice A l.length c] w (BktPost r b l m w) := by
  have HL := Lib.hid hl
  have HV := Lib.hid hv
  clear hl hv
  go_enter Try.func33, Try.ntmps33
  go_wp2_with (go_at_call 40; refine (bucket_may_yes _ _ h1 h2 h3 h4 _).mono ?_; rintro e w' ⟨rfl, rfl⟩)
  go_loopw [8, 9, 10, 24] (fun out cr la i wr => ∃ (k : Nat) (A' : Option Addr) (c' : Nat), k ≤ m ∧ i = .int .i64 k ∧ out = .slice A' k c' ∧ cr = .int .i64 (bkt.cr r b l k) ∧ la = .int .i64 (bkt.lastOf l k) ∧ Hid (Own wr w.heap.size 4 1 A' k c' ((bkt.passTo r b l k).map Value.bool)) ∧ Below w.heap.size w wr) (fun _ _ _ i _ => l.length - (intOf i).toNat)
  case atStart => exact ⟨0, none, 0, Nat.zero_le _, rfl, rfl, rfl, rfl, Lib.hid (Own.nil _ _ _ _), Below.refl _ _⟩
  case round =>
    obtain ⟨k, A', c', hk, rfl, rfl, rfl, rfl, HO, hB⟩ := hrel
    by_cases hlt : k < m
    · have hltl : k < l.length := by omega
      obtain ⟨bb, o, rfl, hbb, hc1, hc2⟩ := Packet.cells_at bkt.z (HL.out.below hB) hltl
      rename_i wr _
      have hbw : bb < wr.heap.size := Nat.lt_of_lt_of_le hbb hB.size
      have hsz := hB.size
      have hok := (HV.out k hlt).1
      have hold := (HV.out k hlt).2
      have hlb := bkt.last_bd l HV.out hlt
      have hcr := bkt.cr_bd r b l h1 h2 h3 HV.out k hk
      have hdel : 0 < k → 0 ≤ r * (bkt.at' l k - bkt.lastOf l k) ∧ r * (bkt.at' l k - bkt.lastOf l k) ≤ 1048576000 := fun h => bkt.delta_bd r l h1 h2 HV.out hlt h
      have HL2 : Hid (bkt.lastOf l (k + 1) = bkt.at' l k) := Lib.hid (by simp [bkt.lastOf])
      have HPass : Hid (∀ B, decide (bkt.sz l k ≤ bkt.credit r b l k) = B → (bkt.passTo r b l (k + 1)).map Value.bool = (bkt.passTo r b l k).map Value.bool ++ [.bool B]) := Lib.hid (fun B hB => by
        rw [bkt.passTo, List.map_append]
        simp only [bkt.pass, hB, List.map_cons, List.map_nil])
      have HCr : Hid (∀ V, bkt.stepOf (bkt.credit r b l k) (bkt.sz l k) = V → bkt.cr r b l (k + 1) = V) := Lib.hid (fun V hV => hV)
      have HCd : Hid (bkt.credit r b l k = if k = 0 then b else min b (bkt.cr r b l k + r * (bkt.at' l k - bkt.lastOf l k))) := Lib.hid rfl
      have hlk : k = 0 → bkt.lastOf l k = 0 := fun h => by simp [bkt.lastOf, h]
      have hq0 : k = 0 → bkt.cr r b l k = b := fun h => by rw [h]; rfl
      unfold bkt.OkAt bkt.OldAt at *
      change wr.cell? ⟨bb, o + k * 2, none⟩ = some (.int .i64 (bkt.at' l k)) at hc1
      change wr.cell? ⟨bb, o + k * 2 + 1, none⟩ = some (.int .i64 (bkt.sz l k)) at hc2
      clear HL HV
      generalize bkt.at' l k = x at *
      generalize bkt.sz l k = y at *
      generalize bkt.lastOf l k = e at *
      generalize bkt.cr r b l k = q at *
      generalize bkt.credit r b l k = cc at *
      by_cases c0 : k = 0
      · have hcd := HCd.out
        rw [if_pos c0] at hcd
        have hq := hq0 c0
        clear HCd hdel hold hlk hq0
        subst c0
        subst hcd
        subst hq
        simp only [Nat.zero_mul, Nat.add_zero] at hc1 hc2
        by_cases cp : y ≤ q
        · have HP := Lib.hid (HPass.out true (by simp; exact cp))
          have HC2 := Lib.hid (HCr.out (q - y) (by unfold bkt.stepOf; rw [if_pos cp]))
          clear HPass HCr
          go_wp2_with (first
            | (go_at_call 41; refine (bucket_in_yes _ _ _ (by omega) (by omega) _).mono ?_; rintro e w' ⟨rfl, rfl⟩)
            | (at_builtin; refine wp_app _ rfl _ _ _ rfl elemBool w.heap.size A' _ c' _ rfl ((HO.out.alloc _).alloc _) _ 1 1 [.bool true] rfl rfl (Cells.newAt _ _ _ (by simp)) (by simp [Value.oneCell']) (by omega) (by unfold maxLen; omega) (by simp; omega) ?_; intro A2 c2 w2 hO2 hg2; have HO3 := Lib.hid hO2; clear hO2))
          go_roundw
          case rel => exact ⟨0 + 1, A2, c2, by omega, by go_num, rfl, by rw [HC2.out], by rw [HL2.out], Lib.hid (by rw [HP.out]; exact HO3.out), Grew.step (balloc (balloc hB _) _) hg2 (fun g hg => (HO.out.lt g hg).1)⟩
          case measure => simp [intOf]; omega
        · have cp' : q < y := by omega
          have cpd : decide (y ≤ q) = false := by simp; omega
          have HP := Lib.hid (HPass.out false (by simp; omega))
          have HC2 := Lib.hid (HCr.out (q) (by unfold bkt.stepOf; rw [if_neg (by omega)]))
          clear HPass HCr
          go_wp2_with (first
            | (go_at_call 41; refine (bucket_in_yes _ _ _ (by omega) (by omega) _).mono ?_; rintro e w' ⟨rfl, rfl⟩)
            | (at_builtin; refine wp_app _ rfl _ _ _ rfl elemBool w.heap.size A' _ c' _ rfl ((HO.out.alloc _).alloc _) _ 1 1 [.bool false] rfl rfl (Cells.newAt _ _ _ (by simp)) (by simp [Value.oneCell']) (by omega) (by unfold maxLen; omega) (by simp; omega) ?_; intro A2 c2 w2 hO2 hg2; have HO3 := Lib.hid hO2; clear hO2))
          go_roundw
          case rel => exact ⟨0 + 1, A2, c2, by omega, by go_num, rfl, by rw [HC2.out], by rw [HL2.out], Lib.hid (by rw [HP.out]; exact HO3.out), Grew.step (balloc (balloc hB _) _) hg2 (fun g hg => (HO.out.lt g hg).1)⟩
          case measure => simp [intOf]; omega
      · have c0' : 0 < k := by omega
        have hcd := HCd.out
        rw [if_neg c0] at hcd
        obtain ⟨m1, m2⟩ := hdel c0'
        have hle : e ≤ x := by omega
        clear HCd hdel hold hlk hq0
        by_cases cm : b ≤ q + r * (x - e)
        · obtain rfl : cc = b := by omega
          clear hcd
          by_cases cp : y ≤ cc
          · have HP := Lib.hid (HPass.out true (by simp; exact cp))
            have HC2 := Lib.hid (HCr.out (cc - y) (by unfold bkt.stepOf; rw [if_pos cp]))
            clear HPass HCr
            go_wp2_with (first
              | (go_at_call 41; refine (bucket_in_yes _ _ _ (by omega) (by omega) _).mono ?_; rintro e w' ⟨rfl, rfl⟩)
              | (at_builtin; refine wp_app _ rfl _ _ _ rfl elemBool w.heap.size A' _ c' _ rfl ((HO.out.alloc _).alloc _) _ 1 1 [.bool true] rfl rfl (Cells.newAt _ _ _ (by simp)) (by simp [Value.oneCell']) (by omega) (by unfold maxLen; omega) (by simp; omega) ?_; intro A2 c2 w2 hO2 hg2; have HO3 := Lib.hid hO2; clear hO2))
            go_roundw
            case rel => exact ⟨k + 1, A2, c2, by omega, by go_num, rfl, by rw [HC2.out], by rw [HL2.out], Lib.hid (by rw [HP.out]; exact HO3.out), Grew.step (balloc (balloc hB _) _) hg2 (fun g hg => (HO.out.lt g hg).1)⟩
            case measure => simp [intOf]; omega
          · have cp' : cc < y := by omega
            have cpd : decide (y ≤ cc) = false := by simp; omega
            have HP := Lib.hid (HPass.out false (by simp; omega))
            have HC2 := Lib.hid (HCr.out (cc) (by unfold bkt.stepOf; rw [if_neg (by omega)]))
            clear HPass HCr
            go_wp2_with (first
              | (go_at_call 41; refine (bucket_in_yes _ _ _ (by omega) (by omega) _).mono ?_; rintro e w' ⟨rfl, rfl⟩)
              | (at_builtin; refine wp_app _ rfl _ _ _ rfl elemBool w.heap.size A' _ c' _ rfl ((HO.out.alloc _).alloc _) _ 1 1 [.bool false] rfl rfl (Cells.newAt _ _ _ (by simp)) (by simp [Value.oneCell']) (by omega) (by unfold maxLen; omega) (by simp; omega) ?_; intro A2 c2 w2 hO2 hg2; have HO3 := Lib.hid hO2; clear hO2))
            go_roundw
            case rel => exact ⟨k + 1, A2, c2, by omega, by go_num, rfl, by rw [HC2.out], by rw [HL2.out], Lib.hid (by rw [HP.out]; exact HO3.out), Grew.step (balloc (balloc hB _) _) hg2 (fun g hg => (HO.out.lt g hg).1)⟩
            case measure => simp [intOf]; omega
        · obtain rfl : cc = q + r * (x - e) := by omega
          clear hcd
          have cm' : q + r * (x - e) < b := by omega
          by_cases cp : y ≤ q + r * (x - e)
          · have HP := Lib.hid (HPass.out true (by simp; exact cp))
            have HC2 := Lib.hid (HCr.out ((q + r * (x - e)) - y) (by unfold bkt.stepOf; rw [if_pos cp]))
            clear HPass HCr
            go_wp2_with (first
              | (go_at_call 41; refine (bucket_in_yes _ _ _ (by omega) (by omega) _).mono ?_; rintro e w' ⟨rfl, rfl⟩)
              | (at_builtin; refine wp_app _ rfl _ _ _ rfl elemBool w.heap.size A' _ c' _ rfl ((HO.out.alloc _).alloc _) _ 1 1 [.bool true] rfl rfl (Cells.newAt _ _ _ (by simp)) (by simp [Value.oneCell']) (by omega) (by unfold maxLen; omega) (by simp; omega) ?_; intro A2 c2 w2 hO2 hg2; have HO3 := Lib.hid hO2; clear hO2))
            go_roundw
            case rel => exact ⟨k + 1, A2, c2, by omega, by go_num, rfl, by rw [HC2.out], by rw [HL2.out], Lib.hid (by rw [HP.out]; exact HO3.out), Grew.step (balloc (balloc hB _) _) hg2 (fun g hg => (HO.out.lt g hg).1)⟩
            case measure => simp [intOf]; omega
          · have cp' : q + r * (x - e) < y := by omega
            have cpd : decide (y ≤ q + r * (x - e)) = false := by simp; omega
            have HP := Lib.hid (HPass.out false (by simp; omega))
            have HC2 := Lib.hid (HCr.out ((q + r * (x - e))) (by unfold bkt.stepOf; rw [if_neg (by omega)]))
            clear HPass HCr
            go_wp2_with (first
              | (go_at_call 41; refine (bucket_in_yes _ _ _ (by omega) (by omega) _).mono ?_; rintro e w' ⟨rfl, rfl⟩)
              | (at_builtin; refine wp_app _ rfl _ _ _ rfl elemBool w.heap.size A' _ c' _ rfl ((HO.out.alloc _).alloc _) _ 1 1 [.bool false] rfl rfl (Cells.newAt _ _ _ (by simp)) (by simp [Value.oneCell']) (by omega) (by unfold maxLen; omega) (by simp; omega) ?_; intro A2 c2 w2 hO2 hg2; have HO3 := Lib.hid hO2; clear hO2))
            go_roundw
            case rel => exact ⟨k + 1, A2, c2, by omega, by go_num, rfl, by rw [HC2.out], by rw [HL2.out], Lib.hid (by rw [HP.out]; exact HO3.out), Grew.step (balloc (balloc hB _) _) hg2 (fun g hg => (HO.out.lt g hg).1)⟩
            case measure => simp [intOf]; omega
    · obtain rfl : k = m := by omega
      clear HV
      cases hver with
      | well h =>
        subst h
        clear HL
        go_wp2
        go_ret2
        exact BktPost.well hB ⟨A', c', rfl, HO.out⟩
      | range hltl h1' =>
        obtain ⟨bb, o, rfl, hbb, hc1, hc2⟩ := Packet.cells_at bkt.z (HL.out.below hB) hltl
        rename_i wr _
        have hbw : bb < wr.heap.size := Nat.lt_of_lt_of_le hbb hB.size
        have HF := Lib.hid (fun (e : Ending) (w' : World) (hB : Below w.heap.size w w') (he : e = .returned (.tuple #[.slice none 0 0, .int .i64 2])) => BktPost.range (r := r) (b := b) hB hltl h1' he)
        unfold bkt.OkAt at h1'
        change wr.cell? ⟨bb, o + k * 2, none⟩ = some (.int .i64 (bkt.at' l k)) at hc1
        change wr.cell? ⟨bb, o + k * 2 + 1, none⟩ = some (.int .i64 (bkt.sz l k)) at hc2
        clear HL
        generalize bkt.at' l k = x at *
        generalize bkt.sz l k = y at *
        by_cases hx : 0 ≤ x ∧ x ≤ 1048576
        · go_wp2_with fail
          refine (bucket_in_yes _ _ _ hx.1 hx.2 _).mono ?_
          rintro e w' ⟨rfl, rfl⟩
          go_wp2_with fail
          refine (bucket_in_no _ _ _ (by omega) _).mono ?_
          rintro e w' ⟨rfl, rfl⟩
          go_wp2_with fail
          go_ret2
          exact HF.out _ _ (balloc hB _) rfl
        · go_wp2_with fail
          refine (bucket_in_no _ _ _ (by omega) _).mono ?_
          rintro e w' ⟨rfl, rfl⟩
          go_wp2_with fail
          go_ret2
          exact HF.out _ _ (balloc hB _) rfl
      | old hltl h1' h2' =>
        obtain ⟨bb, o, rfl, hbb, hc1, hc2⟩ := Packet.cells_at bkt.z (HL.out.below hB) hltl
        rename_i wr _
        have hbw : bb < wr.heap.size := Nat.lt_of_lt_of_le hbb hB.size
        have HF := Lib.hid (fun (e : Ending) (w' : World) (hB : Below w.heap.size w w') (he : e = .returned (.tuple #[.slice none 0 0, .int .i64 17])) => BktPost.old (r := r) (b := b) hB hltl h1' he)
        unfold bkt.OkAt at h1'
        unfold bkt.OldAt at h2'
        obtain ⟨k0, hold⟩ := h2'
        change wr.cell? ⟨bb, o + k * 2, none⟩ = some (.int .i64 (bkt.at' l k)) at hc1
        change wr.cell? ⟨bb, o + k * 2 + 1, none⟩ = some (.int .i64 (bkt.sz l k)) at hc2
        clear HL
        generalize bkt.at' l k = x at *
        generalize bkt.sz l k = y at *
        generalize bkt.lastOf l k = e at *
        go_wp2_with (go_at_call 41; refine (bucket_in_yes _ _ _ (by omega) (by omega) _).mono ?_; rintro e w' ⟨rfl, rfl⟩)
        go_ret2
        exact HF.out _ _ (balloc hB _) rfl
end Go.Proofs.Ytdjdjjbcmlnecaa
