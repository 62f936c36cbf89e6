/- Package lz: Expand and its reference; the walk of the law LzExpands. No condition. -/
import Derived.Test.YtkbmpppendelcaaPrA
import Derived.Test.YtkbmpppendelcaaPrB
namespace Go.Proofs.Ytkbmpppendelcaa
open Go.RowKit

set_option maxRecDepth 100000 in
set_option maxHeartbeats 4000000 in
theorem lz_Expand_any (l : List Token) (A : Option Addr) (c : Nat) (w : World) (hl : SlRep Token.rep w (· < w.heap.size) l A c) (hn : l.length ≤ 4096) :
    Calls Try.prog 11 #[.slice A l.length c] w (BytesRes (playTo lzp.step [] l) w) := by
  have HL := Lib.hid hl
  clear hl
  go_enter Try.func11, Try.ntmps11
  go_wp2
  go_loopw [4, 12] (fun out i wr => ∃ (k : Nat) (o : List UInt8) (A' : Option Addr) (c' : Nat), k ≤ l.length ∧ i = .int .i64 k ∧ out = .slice A' o.length c' ∧ o.length ≤ 4096 ∧ Hid (playTo lzp.step o (l.drop k) = playTo lzp.step [] l) ∧ Hid (Own wr w.heap.size 5 1 A' o.length c' (o.map u8v)) ∧ Below w.heap.size w wr) (fun _ i _ => l.length - (intOf i).toNat)
  case atStart => exact ⟨0, [], none, 0, Nat.zero_le _, rfl, rfl, by simp, Lib.hid rfl, Lib.hid (Own.nil _ _ _ _), bself w⟩
  case round =>
    obtain ⟨k, o, A', c', hk, rfl, rfl, ho, HP, HO, hB⟩ := hrel
    by_cases hlt : k < l.length
    · obtain ⟨bb, oo, rfl, hbb, hc1, hc2, hc3⟩ := Token.cells_at lzp.z (HL.out.below hB) hlt
      rename World => wo
      have hbw : bb < wo.heap.size := Nat.lt_of_lt_of_le hbb hB.size
      have hsz := hB.size
      have HS := Lib.hid (fun s' => play_ok (s := o) (s' := s') (step := lzp.step) lzp.z hlt)
      have HN := Lib.hid (fun e => play_no (s := o) (e := e) (step := lzp.step) lzp.z hlt)
      clear HL
      generalize l.getD k lzp.z = t at *
      obtain ⟨by_, di, ln⟩ := t
      dsimp only at hc1 hc2 hc3
      by_cases h1 : 0 < ln
      · by_cases h2 : by_ = 0
        · subst h2
          have z0 : ((0 : UInt8).toNat : Int) = 0 := rfl
          rw [z0] at hc1
          clear z0
          by_cases h3 : 200 < ln
          · have HR : Hid (playTo lzp.step [] l = .error 2) := Lib.hid (by rw [← HP.out]; exact HN.out 2 (by unfold lzp.step; rw [if_pos h1, if_neg (by simp), if_pos (.inl h3)]))
            clear HS HN HO HP
            go_wp2
            go_ret2
            exact BytesRes.no HR.out (by repeat (first | (with_reducible exact Below.refl _ _) | (with_reducible assumption) | (with_reducible refine bset ?_ ?_ _) | (with_reducible refine balloc ?_ _) | (with_reducible refine Below.drew ?_) | (with_reducible refine bdrewN ?_ _) | (with_reducible refine bnext ?_ (by with_reducible assumption)) | exact Nat.le_refl _ | (simp; done) | omega | (simp; omega)))
          · by_cases h4 : di < 1
            · have HR : Hid (playTo lzp.step [] l = .error 2) := Lib.hid (by rw [← HP.out]; exact HN.out 2 (by unfold lzp.step; rw [if_pos h1, if_neg (by simp), if_pos (.inr (.inl h4))]))
              clear HS HN HO HP
              go_wp2
              go_ret2
              exact BytesRes.no HR.out (by repeat (first | (with_reducible exact Below.refl _ _) | (with_reducible assumption) | (with_reducible refine bset ?_ ?_ _) | (with_reducible refine balloc ?_ _) | (with_reducible refine Below.drew ?_) | (with_reducible refine bdrewN ?_ _) | (with_reducible refine bnext ?_ (by with_reducible assumption)) | exact Nat.le_refl _ | (simp; done) | omega | (simp; omega)))
            · have h4' : 1 ≤ di := by omega
              by_cases h5 : 255 < di
              · have HR : Hid (playTo lzp.step [] l = .error 2) := Lib.hid (by rw [← HP.out]; exact HN.out 2 (by unfold lzp.step; rw [if_pos h1, if_neg (by simp), if_pos (.inr (.inr (.inl h5)))]))
                clear HS HN HO HP
                go_wp2
                go_ret2
                exact BytesRes.no HR.out (by repeat (first | (with_reducible exact Below.refl _ _) | (with_reducible assumption) | (with_reducible refine bset ?_ ?_ _) | (with_reducible refine balloc ?_ _) | (with_reducible refine Below.drew ?_) | (with_reducible refine bdrewN ?_ _) | (with_reducible refine bnext ?_ (by with_reducible assumption)) | exact Nat.le_refl _ | (simp; done) | omega | (simp; omega)))
              · by_cases h6 : (o.length : Int) < di
                · have HR : Hid (playTo lzp.step [] l = .error 2) := Lib.hid (by rw [← HP.out]; exact HN.out 2 (by unfold lzp.step; rw [if_pos h1, if_neg (by simp), if_pos (.inr (.inr (.inr h6)))]))
                  clear HS HN HO HP
                  go_wp2
                  go_ret2
                  exact BytesRes.no HR.out (by repeat (first | (with_reducible exact Below.refl _ _) | (with_reducible assumption) | (with_reducible refine bset ?_ ?_ _) | (with_reducible refine balloc ?_ _) | (with_reducible refine Below.drew ?_) | (with_reducible refine bdrewN ?_ _) | (with_reducible refine bnext ?_ (by with_reducible assumption)) | exact Nat.le_refl _ | (simp; done) | omega | (simp; omega)))
                · have h3' : ln ≤ 200 := by omega
                  have h5' : di ≤ 255 := by omega
                  have h6' : di ≤ (o.length : Int) := by omega
                  obtain ⟨dn, rfl⟩ : ∃ dn : Nat, di = dn := ⟨di.toNat, by omega⟩
                  obtain ⟨rn, rfl⟩ : ∃ rn : Nat, ln = rn := ⟨ln.toNat, by omega⟩
                  have HT : Hid (lzp.step o ⟨0, dn, rn⟩ = lzp.over (lzp.run dn rn o)) := Lib.hid (by unfold lzp.step; rw [if_pos h1, if_neg (by simp), if_neg (by simp only [] at *; omega)]; rfl)
                  go_wp2
                  have hT1 : Grew wo (wo.alloc (.cells #[.int .u8 0, .int .i64 dn, .int .i64 rn] 31)) A' A' := (Grew.refl _ _).alloc _
                  have hx1 : (wo.alloc (.cells #[.int .u8 0, .int .i64 dn, .int .i64 rn] 31)).cell? ⟨wo.heap.size, 1, none⟩ = some (.int .i64 dn) := by simp [go_sem]
                  have hx3 : (wo.alloc (.cells #[.int .u8 0, .int .i64 dn, .int .i64 rn] 31)).cell? ⟨wo.heap.size, 2, none⟩ = some (.int .i64 rn) := by simp [go_sem]
                  have hx2 : (wo.alloc (.cells #[.int .u8 0, .int .i64 dn, .int .i64 rn] 31)).heap.size = wo.heap.size + 1 := by simp
                  have HO1 : Hid (Own (wo.alloc (.cells #[.int .u8 0, .int .i64 dn, .int .i64 rn] 31)) w.heap.size 5 1 A' o.length c' (o.map u8v)) := Lib.hid (HO.out.alloc _)
                  generalize wo.alloc (.cells #[.int .u8 0, .int .i64 dn, .int .i64 rn] 31) = w3 at *
                  have HX1 := Lib.hid hx1
                  have HX2 := Lib.hid hx2
                  have HX3 := Lib.hid hx3
                  clear hx3 hx1 hx2 hc1 hc2 hc3
                  go_loopw [4, 72] (fun out i wr => ∃ (j : Nat) (A2 : Option Addr) (c2 : Nat), j ≤ rn ∧ i = .int .i64 j ∧ out = .slice A2 (o.length + j) c2 ∧ Hid (Own wr w.heap.size 5 1 A2 (o.length + j) c2 ((lzp.run dn j o).map u8v)) ∧ Grew w3 wr A' A2) (fun _ i _ => rn - (intOf i).toNat)
                  case atStart => exact ⟨0, A', c', Nat.zero_le _, rfl, rfl, HO1, Grew.refl _ _⟩
                  case round =>
                    obtain ⟨j, A2, c2, hj, rfl, rfl, HO2, hg⟩ := hrel
                    rename World => wj
                    have hsj := hg.grown.size
                    have hbj : Below w.heap.size w wj := Grew.step hB (hT1.trans hg) (fun x hx => (HO.out.lt x hx).1)
                    have hsb := hbj.size
                    have hdx := hg.cell (b := wo.heap.size) 1 (by rw [HX2.out]; omega) (fun x hx => by have := (HO.out.lt x hx).2; omega)
                    have hdy := hg.cell (b := wo.heap.size) 2 (by rw [HX2.out]; omega) (fun x hx => by have := (HO.out.lt x hx).2; omega)
                    rw [HX1.out] at hdx
                    rw [HX3.out] at hdy
                    have hlw : wo.heap.size < wj.heap.size := by have := HX2.out; omega
                    by_cases hlj : j < rn
                    · obtain ⟨idx, hidx⟩ : ∃ idx : Nat, idx + dn = o.length + j := ⟨o.length + j - dn, by omega⟩
                      have hr2 := HO2.out.u8.2
                      have hrl := lzp.run_length dn o j
                      obtain ⟨b2, o2, rfl, _, hd⟩ := u8_at (k := idx) hr2 (by omega)
                      have HV : Hid ((lzp.run dn (j + 1) o).map u8v = (lzp.run dn j o).map u8v ++ [.int .u8 (((lzp.run dn j o).getD idx 0).toNat : Int)]) := Lib.hid (by
                        rw [lzp.run, List.map_append, hrl, show o.length + j - dn = idx by omega]; rfl)
                      have hie : ((o.length : Int) + (j : Int) - (dn : Int)) = (idx : Int) := by omega
                      have hil : (idx : Int) < (o.length : Int) + (j : Int) := by omega
                      clear hr2 hrl hidx HP HS HN
                      generalize ((lzp.run dn j o).getD idx 0).toNat = x at *
                      go_wp2_with (at_builtin; refine wp_app _ rfl _ _ _ rfl elemU8 w.heap.size _ _ c2 _ rfl (HO2.out.alloc _) _ 1 1 [_] rfl rfl (Cells.newAt _ _ _ (by simp)) (by simp [Value.oneCell']) (by omega) (by unfold maxLen; omega) (by simp; omega) ?_; intro A3 c3 w4 hO4 hg4; have HO4 := Lib.hid hO4; clear hO4)
                      go_roundw
                      case rel => exact ⟨j + 1, A3, c3, by omega, by go_num, rfl, Lib.hid (by rw [HV.out]; exact HO4.out), (hg.alloc _).trans hg4⟩
                      case measure => simp [intOf]; omega
                    · obtain rfl : j = rn := by omega
                      have hrl := lzp.run_length dn o j
                      by_cases h7 : 4096 < o.length + j
                      · have HR : Hid (playTo lzp.step [] l = .error 11) := Lib.hid (by rw [← HP.out]; exact HN.out 11 (by rw [HT.out]; unfold lzp.over; rw [if_pos (by omega)]))
                        have h7' : (4096 : Int) < (o.length : Int) + (j : Int) := by omega
                        clear HS HN HO HP HO1 HO2
                        go_wp2
                        go_ret2
                        exact BytesRes.no HR.out (by repeat (first | (with_reducible exact Below.refl _ _) | (with_reducible assumption) | (with_reducible refine bset ?_ ?_ _) | (with_reducible refine balloc ?_ _) | (with_reducible refine Below.drew ?_) | (with_reducible refine bdrewN ?_ _) | (with_reducible refine bnext ?_ (by with_reducible assumption)) | exact Nat.le_refl _ | (simp; done) | omega | (simp; omega)))
                      · have HR : Hid (playTo lzp.step (lzp.run dn j o) (l.drop (k + 1)) = playTo lzp.step [] l) := Lib.hid (by rw [← HP.out]; exact (HS.out _ (by rw [HT.out]; unfold lzp.over; rw [if_neg (by omega)])).symm)
                        have h7' : (o.length : Int) + (j : Int) ≤ 4096 := by omega
                        have HL2 := Lib.hid hrl
                        clear HS HN HO HP HO1 hrl
                        go_wp2
                        go_roundw
                        case rel => exact ⟨k + 1, lzp.run dn j o, A2, c2, by omega, by go_num, by rw [HL2.out], by rw [HL2.out]; omega, HR, by rw [HL2.out]; exact HO2, hbj⟩
                        case measure => simp [intOf]; omega
        · have HR : Hid (playTo lzp.step [] l = .error 4) := Lib.hid (by rw [← HP.out]; exact HN.out 4 (by unfold lzp.step; rw [if_pos h1, if_pos (by simpa using h2)]))
          clear HS HN HO HP
          have hb1 : (((by_.toNat : Nat) : Int) == 0) = false := by rw [beq_eq_false_iff_ne]; intro h; exact h2 (UInt8.toNat_inj.1 (by simpa using h))
          have hb2 : (((by_.toNat : Nat) : Int) != 0) = true := by rw [bne, hb1]; rfl
          go_wp2
          go_ret2
          exact BytesRes.no HR.out (by repeat (first | (with_reducible exact Below.refl _ _) | (with_reducible assumption) | (with_reducible refine bset ?_ ?_ _) | (with_reducible refine balloc ?_ _) | (with_reducible refine Below.drew ?_) | (with_reducible refine bdrewN ?_ _) | (with_reducible refine bnext ?_ (by with_reducible assumption)) | exact Nat.le_refl _ | (simp; done) | omega | (simp; omega)))
      · have h1' : ln ≤ 0 := by omega
        by_cases h2 : di = 0
        · subst h2
          by_cases h3 : ln < 0
          · have HR : Hid (playTo lzp.step [] l = .error 2) := Lib.hid (by rw [← HP.out]; exact HN.out 2 (by unfold lzp.step; rw [if_neg (by simpa using h1'), if_neg (by simp), if_pos h3]))
            clear HS HN HO HP
            go_wp2
            go_ret2
            exact BytesRes.no HR.out (by repeat (first | (with_reducible exact Below.refl _ _) | (with_reducible assumption) | (with_reducible refine bset ?_ ?_ _) | (with_reducible refine balloc ?_ _) | (with_reducible refine Below.drew ?_) | (with_reducible refine bdrewN ?_ _) | (with_reducible refine bnext ?_ (by with_reducible assumption)) | exact Nat.le_refl _ | (simp; done) | omega | (simp; omega)))
          · obtain rfl : ln = 0 := by omega
            have hbv : ((by_.toNat : Nat) : Int) ≤ 255 := by have := by_.toNat_lt; omega
            have HT : Hid (lzp.step o ⟨by_, 0, 0⟩ = lzp.over (o ++ [by_])) := Lib.hid (by unfold lzp.step; rw [if_neg (by simp), if_neg (by simp), if_neg (by simp)])
            have HV : Hid ((o ++ [by_]).map u8v = o.map u8v ++ [.int .u8 (by_.toNat : Int)]) := Lib.hid (by rw [List.map_append]; rfl)
            go_wp2_with (at_builtin; refine wp_app _ rfl _ _ _ rfl elemU8 w.heap.size A' _ c' _ rfl ((HO.out.alloc _).alloc _) _ 1 1 [_] rfl rfl (Cells.newAt _ _ _ (by simp)) (by simp [Value.oneCell']) (by omega) (by unfold maxLen; omega) (by simp; omega) ?_; intro A3 c3 w4 hO4 hg4; have hdx := hg4.cell (b := wo.heap.size) 2 (by simp; omega) (fun x hx => by have := (HO.out.lt x hx).2; omega); simp [go_sem] at hdx; have hs4 := hg4.grown.size; simp at hs4; have HO4 := Lib.hid hO4; clear hO4)
            go_loopw [4, 72] (fun out i wr => out = .slice A3 (o.length + 1) c3 ∧ i = .int .i64 0 ∧ wr = w4) (fun _ _ _ => 0)
            case atStart => exact ⟨rfl, rfl, rfl⟩
            case round =>
              obtain ⟨rfl, rfl, rfl⟩ := hrel
              rename World => w4
              have hb4 : Below w.heap.size w w4 := Grew.step (balloc (balloc hB _) _) hg4 (fun x hx => (HO.out.lt x hx).1)
              by_cases h7 : 4096 < o.length + 1
              · have HR : Hid (playTo lzp.step [] l = .error 11) := Lib.hid (by rw [← HP.out]; exact HN.out 11 (by rw [HT.out]; unfold lzp.over; rw [if_pos (by simpa using h7)]))
                have h7' : (4096 : Int) < (o.length : Int) + 1 := by omega
                clear HS HN HP HT HV HO HO4
                go_wp2
                go_ret2
                exact BytesRes.no HR.out hb4
              · have HR : Hid (playTo lzp.step (o ++ [by_]) (l.drop (k + 1)) = playTo lzp.step [] l) := Lib.hid (by rw [← HP.out]; exact (HS.out _ (by rw [HT.out]; unfold lzp.over; rw [if_neg (by simpa using h7)])).symm)
                have h7' : (o.length : Int) + 1 ≤ 4096 := by omega
                have HL2 : Hid ((o ++ [by_]).length = o.length + 1) := Lib.hid (by simp)
                clear HS HN HP HT HO
                go_wp2
                go_roundw
                case rel => exact ⟨k + 1, o ++ [by_], A3, c3, by omega, by go_num, by rw [HL2.out], by rw [HL2.out]; omega, HR, by rw [HL2.out, HV.out]; exact HO4, hb4⟩
                case measure => simp [intOf]; omega
        · have HR : Hid (playTo lzp.step [] l = .error 4) := Lib.hid (by rw [← HP.out]; exact HN.out 4 (by unfold lzp.step; rw [if_neg (by simpa using h1'), if_pos h2]))
          clear HS HN HO HP
          have hb1 : (di == 0) = false := by rw [beq_eq_false_iff_ne]; exact h2
          have hb2 : (di != 0) = true := by rw [bne, hb1]; rfl
          go_wp2
          go_ret2
          exact BytesRes.no HR.out (by repeat (first | (with_reducible exact Below.refl _ _) | (with_reducible assumption) | (with_reducible refine bset ?_ ?_ _) | (with_reducible refine balloc ?_ _) | (with_reducible refine Below.drew ?_) | (with_reducible refine bdrewN ?_ _) | (with_reducible refine bnext ?_ (by with_reducible assumption)) | exact Nat.le_refl _ | (simp; done) | omega | (simp; omega)))
    · obtain rfl : k = l.length := by omega
      have HR : Hid (playTo lzp.step [] l = .ok o) := Lib.hid (by rw [← HP.out]; exact play_end)
      clear HP HL
      go_wp2
      go_ret2
      exact BytesRes.yes HR.out HO.out hB
end Go.Proofs.Ytkbmpppendelcaa
