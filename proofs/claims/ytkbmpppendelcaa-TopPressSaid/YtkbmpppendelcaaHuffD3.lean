/- Package huff: Decode. No condition. -/
import Derived.Test.YtkbmpppendelcaaHuffD2
import Derived.Test.YtkbmpppendelcaaHuff2
namespace Go.Proofs.Ytkbmpppendelcaa
open Go.RowKit Go.Maps Go.WideShapes Go.ChangeMaps Go.MapKept
set_option linter.unusedSimpArgs false

/-- what Decode answers -/
def DecPost (l : List Int) (b : List UInt8) (count : Int) (w : World) (e : Ending) (w' : World) : Prop := Below w.heap.size w w' ∧
  (¬ hf.may l = true → e = .returned (.tuple #[.slice none 0 0, .int .i64 4])) ∧
  (hf.may l = true → ¬ (0 ≤ count ∧ count ≤ 4096) → e = .returned (.tuple #[.slice none 0 0, .int .i64 2])) ∧
  (hf.may l = true → ∀ k : Nat, count = k → k ≤ 4096 → (hf.decTo l b k).2.2 ≠ 0 → e = .returned (.tuple #[.slice none 0 0, .int .i64 (hf.decTo l b k).2.2])) ∧
  (hf.may l = true → ∀ k : Nat, count = k → k ≤ 4096 → (hf.decTo l b k).2.2 = 0 → ∃ (A' : Option Addr) (n c' : Nat), e = .returned (.tuple #[.slice A' n c', .int .i64 0]) ∧ Own w' w.heap.size 3 1 A' n c' ((hf.decTo l b k).1.map intv))

set_option maxRecDepth 100000 in
set_option maxHeartbeats 4000000 in
theorem huff_Decode (l : List Int) (A : Option Addr) (c : Nat) (b : List UInt8) (A2 : Option Addr) (c2 : Nat) (count : Int) (w : World) (hl : SlRep Rep.int w (· < w.heap.size) l A c) (hb : SlRep Rep.u8 w (· < w.heap.size) b A2 c2) (hn : l.length ≤ 9223372036854775807) (hbl : b.length ≤ 140737488351232) :
    Calls Try.prog 10 #[.slice A l.length c, .slice A2 b.length c2, .int .i64 count] w (DecPost l b count w) := by
  have HL := Lib.hid hl
  have HB := Lib.hid hb
  have HMY := Lib.hid (huff_may l A c _ w hl hn)
  clear hl hb
  by_cases hm : hf.may l = true
  · rw [hm] at HMY
    by_cases hr : 0 ≤ count ∧ count ≤ 4096
    · obtain ⟨cnt, rfl⟩ : ∃ cnt : Nat, count = cnt := ⟨count.toNat, by omega⟩
      have hft := hf.may_iff.1 hm
      have HF := Lib.hid hft
      have h64 := hft.1
      have hcb : cnt ≤ 4096 := by omega
      have HBADx : Hid (∀ i, i ≤ cnt → ∀ e, e ≠ 0 → (hf.decTo l b i).2.2 = e → ∀ wx, Below w.heap.size w wx → DecPost l b cnt w (.returned (.tuple #[.slice none 0 0, .int .i64 e])) wx) := Lib.hid (fun i hi e he hd wx hb => by
        have h2 := hf.decTo_bad (l := l) (b := b) (i := i) (by rw [hd]; exact he) cnt hi
        rw [hd] at h2
        exact ⟨hb, fun h => absurd hm h, fun _ h => absurd hr h, fun _ k hk _ _ => by
          have : k = cnt := by omega
          subst this; rw [h2], fun _ k hk _ hz => by
          have : k = cnt := by omega
          subst this; rw [h2] at hz; exact absurd hz he⟩)
      have HOKx : Hid (∀ L a, hf.decTo l b cnt = (L, a, 0) → ∀ A' n c' wx, Below w.heap.size w wx → Own wx w.heap.size 3 1 A' n c' (L.map intv) → DecPost l b cnt w (.returned (.tuple #[.slice A' n c', .int .i64 0])) wx) := Lib.hid (fun L a hd A' n c' wx hb ho => ⟨hb, fun h => absurd hm h, fun _ h => absurd hr h, fun _ k hk _ hz => by
          have : k = cnt := by omega
          subst this; rw [hd] at hz; exact absurd rfl hz, fun _ k hk _ _ => by
          have : k = cnt := by omega
          subst this; rw [hd]; exact ⟨A', n, c', rfl, ho⟩⟩)
      clear hm hr
      have hmm := @run_makeMap Try.prog
      obtain ⟨w1, hw1⟩ : ∃ w1, w1 = w.alloc (.map #[] 0) := ⟨_, rfl⟩
      have hB1 : Below w.heap.size w w1 := by rw [hw1]; exact (by repeat (first | (with_reducible exact Below.refl _ _) | (with_reducible assumption) | (with_reducible refine bset ?_ ?_ _) | (with_reducible refine balloc ?_ _) | (with_reducible refine Below.drew ?_) | (with_reducible refine bdrewN ?_ _) | (with_reducible refine bnext ?_ (by with_reducible assumption)) | exact Nat.le_refl _ | (simp; done) | omega | (simp; omega)))
      have HM1 : Hid (MapV w1 Try.prog 64 w.heap.size 0 (hf.symM l 0)) := Lib.hid (by rw [hw1]; unfold hf.symM; rw [hf.symF_zero, ← mapS_none]; exact MapV.made w _ _)
      have HCO := Lib.hid (huff_codes l A c w1 (HL.out.next hB1) hft)
      clear hft
      go_enter Try.func10, Try.ntmps10
      go_wp2_with (first
        | (go_at_call 25; refine HMY.out.mono ?_; rintro e w' ⟨rfl, rfl⟩)
        | (go_at_call 26; rw [← hw1]; refine HCO.out.mono ?_; rintro e w2 ⟨gc, rfl, hoc, hbc⟩; have HOC := Lib.hid hoc; have HBC := Lib.hid hbc; clear hoc hbc))
      clear hw1
      have HG : Hid (w1.heap.size ≤ gc ∧ gc < w2.heap.size) := Lib.hid HOC.out.lt
      have HM2 : Hid (MapV w2 Try.prog 64 w.heap.size 0 (hf.symM l 0)) := Lib.hid (HM1.out.next HBC.out)
      have HMB : Hid (w.heap.size < w1.heap.size) := Lib.hid HM1.out.lt
      go_loopw [31] (fun i wr => ∃ k : Nat, k ≤ l.length ∧ i = .int .i64 k ∧ Hid (MapV wr Try.prog 64 w.heap.size k (hf.symM l k) ∧ OI wr w1.heap.size gc l.length l.length (hf.codes l) ∧ Below w.heap.size w wr)) (fun i _ => l.length - (intOf i).toNat)
      case atStart => exact ⟨0, by omega, rfl, Lib.hid ⟨HM2.out, HOC.out, hB1.trans (HBC.out.mono hB1.size)⟩⟩
      case round =>
        obtain ⟨k, hk, rfl, HJ⟩ := hrel
        rename World => wr
        obtain ⟨hM, hO, hBw⟩ := HJ.out
        by_cases hlt : k < l.length
        · obtain ⟨bl, ol, rfl, _, hc1⟩ := int_at (HL.out.below hBw) hlt
          have hlt' : (k : Int) < (l.length : Int) := by omega
          have hc2 := hO.at (hf.codes_at hlt)
          have hcb2 := hf.codeOf_bd HF.out (k : Int)
          have h40 := ((hf.fits_iff l).1 HF.out).2.1 k hlt
          obtain ⟨kl, hkl⟩ := hf.keyOf_val (n := l.getD k 0) (c := hf.codeOf l k) (by unfold IntOk; omega) (by unfold IntOk; omega)
          have HKL := Lib.hid hkl
          have hsucc := fun h1 => hf.symF_succ HF.out hlt h1
          have hsame := fun h1 => hf.symF_same (l := l) (k := k) h1
          have HSU : Hid (0 < l.getD k 0 → mapPut (hf.symM l k) kl (.int .i64 k) = hf.symM l (k + 1)) := Lib.hid (fun h1 => by
            unfold hf.symM
            rw [mapS_put hf.keyed _ hkl, hsucc h1])
          have HSA : Hid (¬ 0 < l.getD k 0 → hf.symM l (k + 1) = hf.symM l k) := Lib.hid (fun h1 => by unfold hf.symM; rw [hsame h1])
          clear hsucc hsame hkl
          generalize l.getD k 0 = y at *
          generalize hf.codeOf l k = cd at *
          have HM := Lib.hid hM
          have HOO := Lib.hid hO
          have HBW := Lib.hid hBw
          clear HJ hM hO hBw
          by_cases h3 : 0 < y
          · go_wp2_with (at_mapUpdate; refine wp_mput _ rfl _ _ _ _ rfl hf.keyed Try.underlying62 rfl HM.out (by unfold maxLen; omega) (hf.keyV y cd) (.int .i64 k) rfl rfl HKL.out ?_; intro w5 hm5 hg5; have HX5 : Hid (MapV w5 Try.prog 64 w.heap.size (k + 1) (hf.symM l (k + 1)) ∧ OI w5 w1.heap.size gc l.length l.length (hf.codes l) ∧ Below w.heap.size w w5) := Lib.hid ⟨by rw [← HSU.out h3]; exact hm5, Own.kept HOO.out hg5 (.inr (HM.out.apart HOO.out)), HBW.out.grown hg5 HBW.out.size (fun j hj => by cases hj; exact Nat.le_refl _)⟩; clear hm5 hg5)
            try go_frame
            go_roundw
            case rel => exact ⟨k + 1, by omega, by go_num, HX5⟩
            case measure => simp [intOf]; omega
          · have HX5 : Hid (MapV wr Try.prog 64 w.heap.size (k + 1) (hf.symM l (k + 1)) ∧ OI wr w1.heap.size gc l.length l.length (hf.codes l) ∧ Below w.heap.size w wr) := Lib.hid ⟨by rw [HSA.out h3]; exact HM.out.mono (by omega), HOO.out, HBW.out⟩
            go_wp2
            go_roundw
            case rel => exact ⟨k + 1, by omega, by go_num, HX5⟩
            case measure => simp [intOf]; omega
        · obtain rfl : k = l.length := by omega
          have HM := Lib.hid hM
          have HBW := Lib.hid hBw
          clear HJ hM hO hBw
          go_wp2
          go_loopw [11, 12, 51] (fun out at_ i wx => ∃ (k a n c' : Nat) (L : List Int) (A' : Option Addr), k ≤ cnt ∧ n ≤ k ∧ a ≤ 8 * b.length ∧ i = .int .i64 k ∧ at_ = .int .i64 a ∧ out = .slice A' n c' ∧ Hid (hf.decTo l b k = (L, a, 0) ∧ Own wx wr.heap.size 3 1 A' n c' (L.map intv) ∧ Below wr.heap.size wr wx)) (fun _ _ i _ => cnt - (intOf i).toNat)
          case atStart => exact ⟨0, 0, 0, 0, [], none, by omega, by omega, by omega, rfl, rfl, rfl, Lib.hid ⟨rfl, Own.nil _ _ _ _, Below.refl _ _⟩⟩
          case round =>
            obtain ⟨k, a, n, c', L, A', hk2, hnk, ha, rfl, rfl, rfl, HJ⟩ := hrel
            rename World => wx
            obtain ⟨hD, hO, hBx⟩ := HJ.out
            have hBB : Below w.heap.size w wx := HBW.out.trans (hBx.mono HBW.out.size)
            by_cases hlt : k < cnt
            · have hlt' : (k : Int) < (cnt : Int) := by omega
              have HNX := Lib.hid (huff_next l HF.out b A2 c2 w.heap.size l.length a wx (HB.out.next hBB) (HM.out.next hBx) hbl ha)
              have HBD := Lib.hid (hf.nextOf_bound (l := l) (b := b) (a := a))
              obtain ⟨⟨s, ln, er⟩, hne⟩ : ∃ x, hf.nextOf l b a = x := ⟨_, rfl⟩
              unfold NxtPost at HNX
              rw [hne] at HNX HBD
              have HNE := Lib.hid hne
              have HD := Lib.hid hD
              have HO := Lib.hid hO
              have HBX := Lib.hid hBx
              have HBBX := Lib.hid hBB
              clear HJ hD hO hBx hBB hne
              by_cases he : er = 0
              · subst he
                have hln : a + ln ≤ 8 * b.length := HBD.out rfl
                have HDS : Hid (hf.decTo l b (k + 1) = (L ++ [s], a + ln, 0)) := Lib.hid (hf.decTo_ok HD.out HNE.out)
                clear HBD
                have hzz : wr.heap.size ≤ wx.heap.size := HBX.out.size
                go_wp2_with (first
                  | (go_at_call 27; refine HNX.out.mono ?_; rintro e w3 ⟨rfl, hb3⟩; have HB3 : Hid (Own w3 wr.heap.size 3 1 A' n c' (L.map intv) ∧ Below wr.heap.size wr w3 ∧ wr.heap.size ≤ w3.heap.size) := Lib.hid ⟨HO.out.next hb3, HBX.out.trans (hb3.mono HBX.out.size), Nat.le_trans hzz hb3.size⟩; clear hb3)
                  | (at_builtin; refine wp_app _ rfl _ _ _ rfl elemInt wr.heap.size A' _ c' _ rfl (HB3.out.1.alloc _) _ 1 1 [.int .i64 s] rfl rfl (Cells.newAt _ _ _ (by simp)) (by simp [Value.oneCell']) (by omega) (by unfold maxLen; omega) (by have := HB3.out.2.2; simp; omega) ?_; intro A4 c4 w4 hO4 hg4; have HX4 : Hid (Own w4 wr.heap.size 3 1 A4 (n + 1) c4 ((L ++ [s]).map intv) ∧ Below wr.heap.size wr w4) := Lib.hid ⟨by rw [List.map_append]; exact hO4, Grew.step (balloc HB3.out.2.1 _) hg4 (fun g hg => (HB3.out.1.lt g hg).1)⟩; clear hO4 hg4))
                go_roundw
                case rel => exact ⟨k + 1, a + ln, n + 1, c4, L ++ [s], A4, by omega, by omega, hln, by go_num, by go_num, rfl, Lib.hid ⟨HDS.out, HX4.out.1, HX4.out.2⟩⟩
                case measure => simp [intOf]; omega
              · have HE := Lib.hid (fun w3 (h : Below w.heap.size w w3) => HBADx.out (k + 1) (by omega) er he (hf.decTo_err HD.out HNE.out he) w3 h)
                clear HBD
                go_wp2_with (go_at_call 27; refine HNX.out.mono ?_; rintro e w3 ⟨rfl, hb3⟩; have HE3 := Lib.hid (HE w3 (HBBX.out.trans (hb3.mono HBBX.out.size))); clear hb3)
                go_ret2
                exact HE3.out
            · obtain rfl : k = cnt := by omega
              have hlt' : ¬ ((k : Int) < (k : Int)) := by omega
              have HE := Lib.hid (HOKx.out L a hD A' n c' wx hBB (hO.base_le HBW.out.size))
              clear HJ hD hO hBx hBB
              go_wp2
              go_ret2
              exact HE.out
    · have HE : Hid (DecPost l b count w (.returned (.tuple #[.slice none 0 0, .int .i64 2])) w) := Lib.hid ⟨Below.refl _ _, fun h => absurd hm h, fun _ _ => rfl, fun _ k hk h4 => absurd ⟨by omega, by omega⟩ hr, fun _ k hk h4 => absurd ⟨by omega, by omega⟩ hr⟩
      by_cases h0 : count < 0
      · go_enter Try.func10, Try.ntmps10
        go_wp2_with (go_at_call 25; refine HMY.out.mono ?_; rintro e w' ⟨rfl, rfl⟩)
        go_ret2
        exact HE.out
      · have h4 : 4096 < count := by omega
        go_enter Try.func10, Try.ntmps10
        go_wp2_with (go_at_call 25; refine HMY.out.mono ?_; rintro e w' ⟨rfl, rfl⟩)
        go_ret2
        exact HE.out
  · have hmf : hf.may l = false := by cases h : hf.may l <;> simp_all
    have HE : Hid (DecPost l b count w (.returned (.tuple #[.slice none 0 0, .int .i64 4])) w) := Lib.hid ⟨Below.refl _ _, fun _ => rfl, fun h => absurd h hm, fun h => absurd h hm, fun h => absurd h hm⟩
    rw [hmf] at HMY
    go_enter Try.func10, Try.ntmps10
    go_wp2_with (go_at_call 25; refine HMY.out.mono ?_; rintro e w' ⟨rfl, rfl⟩)
    go_ret2
    exact HE.out
end Go.Proofs.Ytkbmpppendelcaa
