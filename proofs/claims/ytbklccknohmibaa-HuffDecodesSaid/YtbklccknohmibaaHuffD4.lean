/- Package huff: the reference's HuffDecoded. No condition. -/
import Derived.Test.YtbklccknohmibaaHuffD3
import Derived.Test.YtbklccknohmibaaHuff5
namespace Go.Proofs.Ytbklccknohmibaa
open Go.RowKit
set_option linter.unusedSimpArgs false

theorem bit_of_num (cd k : Nat) (hc : cd ≤ 1099511627776) : bits BinOp.and IntKind.i64 ((cd : Int) / 2 ^ k) 1 = ((hf.bit cd k : Nat) : Int) := by
  have h1 : (cd : Int) / 2 ^ k = ((cd / 2 ^ k : Nat) : Int) := by push_cast; rfl
  have hle : cd / 2 ^ k ≤ cd := Nat.div_le_self _ _
  rw [h1, and_one _ (by omega)]
  rfl

set_option maxRecDepth 100000 in
set_option maxHeartbeats 8000000 in
theorem ref_HuffDecoded (l : List Int) (A : Option Addr) (c : Nat) (b : List UInt8) (A2 : Option Addr) (c2 : Nat) (count : Int) (w : World) (hl : SlRep Rep.int w (· < w.heap.size) l A c) (hb : SlRep Rep.u8 w (· < w.heap.size) b A2 c2) (hn : l.length ≤ 9223372036854775807) (hbl : b.length ≤ 140737488351232) :
    Calls Try.prog 21 #[.slice A l.length c, .slice A2 b.length c2, .int .i64 count] w (DecPost l b count w) := by
  have HL := Lib.hid hl
  have HB := Lib.hid hb
  have HCO := Lib.hid (ref_HuffCodes l A c w hl hn)
  clear hl hb
  by_cases hm : hf.may l = true
  · have e0 : ∀ w e w', CodesPost l w e w' → ∃ g : Nat, e = .returned (.tuple #[.slice (some ⟨g, 0, none⟩) l.length l.length, .int .i64 0]) ∧ OI w' w.heap.size g l.length l.length (hf.codes l) ∧ Below w.heap.size w w' := fun w e w' h => by unfold CodesPost at h; rwa [if_pos hm] at h
    by_cases hr : 0 ≤ count ∧ count ≤ 4096
    · obtain ⟨cnt, rfl⟩ : ∃ cnt : Nat, count = cnt := ⟨count.toNat, by omega⟩
      have hft := hf.may_iff.1 hm
      have HF := Lib.hid hft
      have h64 := hft.1
      have hcb : cnt ≤ 4096 := by omega
      have HBADx : Hid (∀ i, i ≤ cnt → ∀ e, e ≠ 0 → (hf.decTo l b i).2.2 = e → ∀ wx, Below w.heap.size w wx → DecPost l b cnt w (.returned (.tuple #[.slice none 0 0, .int .i64 e])) wx) := Lib.hid (fun i hi e he hd wx hb => by
        have h2 := hf.decTo_bad (l := l) (b := b) (i := i) (by rw [hd]; exact he) cnt hi
        rw [hd] at h2
        exact ⟨hb, fun h => absurd hm h, fun _ h => absurd hr h, fun _ k hk _ _ => by
          have : k = cnt := by omega
          subst this; rw [h2], fun _ k hk _ hz => by
          have : k = cnt := by omega
          subst this; rw [h2] at hz; exact absurd hz he⟩)
      have HOKx : Hid (∀ L a, hf.decTo l b cnt = (L, a, 0) → ∀ A' n c' wx, Below w.heap.size w wx → Own wx w.heap.size 3 1 A' n c' (L.map intv) → DecPost l b cnt w (.returned (.tuple #[.slice A' n c', .int .i64 0])) wx) := Lib.hid (fun L a hd A' n c' wx hb ho => ⟨hb, fun h => absurd hm h, fun _ h => absurd hr h, fun _ k hk _ hz => by
          have : k = cnt := by omega
          subst this; rw [hd] at hz; exact absurd rfl hz, fun _ k hk _ _ => by
          have : k = cnt := by omega
          subst this; rw [hd]; exact ⟨A', n, c', rfl, ho⟩⟩)
      clear hm hr hft
      go_enter Try.func21, Try.ntmps21
      go_wp2_with (go_at_call 17; refine HCO.out.mono ?_; intro e w1 h; obtain ⟨gc, rfl, hoc, hbc⟩ := e0 _ _ _ h; clear h; have HOC := Lib.hid hoc; have HBC := Lib.hid hbc; clear hoc hbc)
      clear e0
      go_loopw [10, 11, 12] (fun at_ out i wr => ∃ (k a n c' : Nat) (L : List Int) (A' : Option Addr), k ≤ cnt ∧ n ≤ k ∧ a ≤ 8 * b.length ∧ i = .int .i64 k ∧ at_ = .int .i64 a ∧ out = .slice A' n c' ∧ Hid (hf.decTo l b k = (L, a, 0) ∧ Own wr w1.heap.size 3 1 A' n c' (L.map intv) ∧ Below w1.heap.size w1 wr)) (fun _ _ i _ => cnt - (intOf i).toNat)
      case atStart => exact ⟨0, 0, 0, 0, [], none, by omega, by omega, by omega, rfl, rfl, rfl, Lib.hid ⟨rfl, Own.nil _ _ _ _, Below.refl _ _⟩⟩
      case round =>
        obtain ⟨k, a, n, c', L, A', hk2, hnk, ha, rfl, rfl, rfl, HJ⟩ := hrel
        rename World => wr
        by_cases hlt : k < cnt
        · have hlt' : (k : Int) < (cnt : Int) := by omega
          have HBW : Hid (Below w.heap.size w wr) := Lib.hid (HBC.out.trans (HJ.out.2.2.mono HBC.out.size))
          have HOR : Hid (OI wr w.heap.size gc l.length l.length (hf.codes l)) := Lib.hid (Own.below HOC.out HJ.out.2.2 (fun k hk => (Own.lt HOC.out k hk).2))
          go_wp2
          go_loopw [13, 14, 39] (fun fo be i wx => ∃ (j : Nat) (f : Int) (g : Bool), j ≤ l.length ∧ i = .int .i64 j ∧ fo = .int .i64 f ∧ be = .bool g ∧ Hid (hf.Found l b a j f ∧ hf.Begs l b a j g ∧ Below wr.heap.size wr wx)) (fun _ _ i _ => l.length - (intOf i).toNat)
          case atStart => exact ⟨0, -1, false, by omega, rfl, rfl, rfl, Lib.hid ⟨hf.Found.zero l b a, hf.Begs.zero l b a, Below.refl _ _⟩⟩
          case round =>
            obtain ⟨j, f, g, hj, rfl, rfl, rfl, HK⟩ := hrel
            rename World => wx
            by_cases hjl : j < l.length
            · have hjl' : (j : Int) < (l.length : Int) := by omega
              have hBx : Below w.heap.size w wx := HBW.out.trans (HK.out.2.2.mono HBW.out.size)
              obtain ⟨bl, ol, rfl, _, hc1⟩ := int_at (HL.out.below hBx) hjl
              have h40 := ((hf.fits_iff l).1 HF.out).2.1 j hjl
              have HBX := Lib.hid hBx
              have hfg : Below wr.heap.size wr wx := HK.out.2.2
              have HFG := Lib.hid hfg
              clear hfg hBx
              by_cases h0 : l.getD j 0 = 0
              · have hns : ¬ (j : Int) ∈ hf.syms l := fun h => by
                  obtain ⟨t, _, h2, h3⟩ := hf.mem_syms.1 h
                  have : t = j := by omega
                  subst this
                  omega
                have HK2 : Hid (hf.Found l b a (j + 1) f ∧ hf.Begs l b a (j + 1) g ∧ Below wr.heap.size wr wx) := Lib.hid ⟨HK.out.1.miss (fun h => hns h.1), HK.out.2.1.miss (fun h => hns h.1), HFG.out⟩
                rw [h0] at hc1
                clear HK hns h0 h40
                go_wp2
                go_roundw
                case rel => exact ⟨j + 1, f, g, by omega, by go_num, rfl, rfl, HK2⟩
                case measure => simp [intOf]; omega
              · obtain ⟨nn, hnn⟩ : ∃ nn : Nat, l.getD j 0 = nn := ⟨(l.getD j 0).toNat, by omega⟩
                obtain ⟨cd, hcd⟩ : ∃ cd : Nat, hf.codeOf l j = cd := ⟨(hf.codeOf l j).toNat, by have := hf.codeOf_bd HF.out j; omega⟩
                have hcdb := hf.codeOf_bd HF.out (j : Int)
                have hs : (j : Int) ∈ hf.syms l := hf.mem_syms.2 ⟨j, hjl, by omega, rfl⟩
                have hlN : hf.lenN l (j : Int) = nn := by unfold hf.lenN; rw [hf.len_nat]; omega
                have hcN : hf.codeN l (j : Int) = cd := by unfold hf.codeN; omega
                have hcl := hf.code_lt HF.out hs
                rw [show (hf.codeOf l (j : Int)).toNat = cd by omega, show (hf.len l (j : Int)).toNat = nn from hlN] at hcl
                have HHIT : Hid (hf.Same b a cd nn nn → a + nn ≤ 8 * b.length → hf.Hit l b a j ∧ ¬ hf.Begun l b a j) := Lib.hid (fun h1 h2 => by have h := hf.cmp_hit (l := l) (b := b) (a := a) hs; rw [hlN, hcN] at h; exact h h1 h2)
                have HSH : Hid (∀ m, m < nn → hf.Same b a cd nn m → a + m = 8 * b.length → ¬ hf.Hit l b a j ∧ hf.Begun l b a j) := Lib.hid (fun m h0 h1 h2 => by have h := hf.cmp_end (l := l) (b := b) (a := a) (m := m) hs; rw [hlN, hcN] at h; exact h h0 h1 h2)
                have HDF : Hid (∀ m, m < nn → a + m < 8 * b.length → hf.bitAt b (a + m) ≠ hf.bit cd (nn - 1 - m) → ¬ hf.Hit l b a j ∧ ¬ hf.Begun l b a j) := Lib.hid (fun m h0 h1 h2 => by have h := hf.cmp_diff (l := l) (b := b) (a := a) (j := j) (m := m); rw [hlN, hcN] at h; exact h h0 h1 h2)
                have HS0 : Hid (hf.Same b a cd nn 0) := Lib.hid (hf.Same.zero hcl)
                have HSC : Hid (∀ wy, Below wr.heap.size wr wy → wy.cell? ⟨gc, j, none⟩ = some (.int .i64 cd)) := Lib.hid (fun wy hy => by
                  have h := Own.below HOR.out hy (fun k hk => (Own.lt HOR.out k hk).2)
                  exact OI.at h (by rw [hf.codes_at hjl, hcd]))
                have hn40 : nn ≤ 40 := by omega
                have hn1 : 1 ≤ nn := by omega
                have hcb' : cd ≤ 1099511627776 := by omega
                rw [hnn] at hc1
                clear hs hlN hcN hcl hcd hcdb hnn h0 h40
                go_wp2
                go_loopw [17] (fun sa wy => ∃ m : Nat, m ≤ nn ∧ a + m ≤ 8 * b.length ∧ sa = .int .i64 m ∧ Hid (hf.Same b a cd nn m ∧ Below wr.heap.size wr wy)) (fun sa _ => nn - (intOf sa).toNat)
                case atStart => exact ⟨0, by omega, by omega, rfl, Lib.hid ⟨HS0.out, HFG.out⟩⟩
                case round =>
                  obtain ⟨m, hm1, hm2, rfl, HM⟩ := hrel
                  rename World => wy
                  have hbel : Below wr.heap.size wr wy := HM.out.2
                  have HWY := Lib.hid hbel
                  obtain ⟨p, hp⟩ : ∃ p : Nat, p = a + m := ⟨_, rfl⟩
                  have ep : (a : Int) + (m : Int) = (p : Int) := by omega
                  have hpb : p ≤ 1125899906842624 := by omega
                  by_cases hmn : m < nn
                  · have hmn' : (m : Int) < (nn : Int) := by omega
                    have hmne : ((m : Int) == (nn : Int)) = false := by simp; omega
                    by_cases ham : p < 8 * b.length
                    · have ham' : (p : Int) < 8 * (b.length : Int) := by omega
                      obtain ⟨q8, hq8⟩ : ∃ q8 : Nat, q8 = p / 8 := ⟨_, rfl⟩
                      obtain ⟨r, hr⟩ : ∃ r : Nat, r = p % 8 := ⟨_, rfl⟩
                      have e8 : (p : Int) / 8 = (q8 : Int) := by omega
                      have er : (p : Int) % 8 = (r : Int) := by omega
                      have hr8 : r < 8 := by omega
                      have hq8l : q8 < b.length := by omega
                      have hq8l2 : (q8 : Int) < (b.length : Int) := by omega
                      obtain ⟨gb, ob, rfl, hgb, hcb8⟩ := u8_cells (HB.out.below (HBW.out.trans (hbel.mono HBW.out.size))) (by omega)
                      have hcb9 := hcb8 q8 hq8l
                      obtain ⟨bb, hbb⟩ : ∃ bb : Nat, (b.getD q8 0).toNat = bb := ⟨_, rfl⟩
                      have hbb255 : bb ≤ 255 := by have := (b.getD q8 0).toNat_lt; omega
                      rw [hbb] at hcb9
                      have hcc := HSC.out wy hbel
                      obtain ⟨x1, hx1⟩ : ∃ x1 : Nat, hf.bitAt b (a + m) = x1 := ⟨_, rfl⟩
                      obtain ⟨kk, hkk⟩ : ∃ kk : Nat, (nn : Int) - 1 - (m : Int) = (kk : Int) := ⟨nn - 1 - m, by omega⟩
                      have hkb : kk ≤ 40 := by omega
                      have hwk : IntKind.i64.wrap (kk : Int) = (kk : Int) := by rw [IntKind.wrap_i64]; omega
                      obtain ⟨x2, hx2⟩ : ∃ x2 : Nat, hf.bit cd (nn - 1 - m) = x2 := ⟨_, rfl⟩
                      have h5 : bits BinOp.and IntKind.i64 ((bb : Int) / 2 ^ (7 - r)) 1 = (x1 : Int) := by
                        rw [bit_of_num bb (7 - r) (by omega), ← hx1]
                        unfold hf.bit hf.bitAt
                        rw [← hp, ← hq8, ← hr, hbb]
                      have h6 : bits BinOp.and IntKind.i64 ((cd : Int) / 2 ^ kk) 1 = (x2 : Int) := by
                        rw [bit_of_num cd kk hcb', ← hx2, show nn - 1 - m = kk by omega]
                      have HX1 := Lib.hid hx1
                      have HX2 := Lib.hid hx2
                      have HPP := Lib.hid hp
                      have hgb' : gb < wy.heap.size := Nat.lt_of_lt_of_le hgb (Nat.le_trans HBW.out.size hbel.size)
                      clear hx1 hx2 hq8 hr hcb8 hbb hbel hp
                      by_cases hxx : x1 = x2
                      · have HN2 : Hid (hf.Same b a cd nn (m + 1)) := Lib.hid ((hf.Same.succ hmn).2 ⟨HM.out.1, by rw [HX1.out, HX2.out]; exact hxx⟩)
                        subst hxx
                        clear HM
                        go_wp2
                        go_quiet (fail)
                        go_wp2
                        exact ⟨⟨m + 1, by omega, by have := HPP.out; omega, by push_cast; rfl, Lib.hid ⟨HN2.out, bdrewN HWY.out _⟩⟩, by simp [intOf]; omega⟩
                      · have HMS := HDF.out m hmn (by have := HPP.out; omega) (by rw [HX1.out, HX2.out]; exact hxx)
                        have HK2 : Hid (hf.Found l b a (j + 1) f ∧ hf.Begs l b a (j + 1) g ∧ Below wr.heap.size wr wy) := Lib.hid ⟨HK.out.1.miss HMS.1, HK.out.2.1.miss HMS.2, HWY.out⟩
                        have hxx' : ((x1 : Int) == (x2 : Int)) = false := by simp; omega
                        have hpne : ((p : Int) == 8 * (b.length : Int)) = false := by simp; omega
                        clear HM HMS HK
                        go_wp2
                        go_quiet (fail)
                        go_wp2
                        exact ⟨⟨j + 1, f, g, by omega, by push_cast; rfl, rfl, rfl, Lib.hid ⟨HK2.out.1, HK2.out.2.1, bdrewN HK2.out.2.2 _⟩⟩, by simp [intOf]; omega⟩
                    · have hpe : p = 8 * b.length := by omega
                      have ham' : ¬ (p : Int) < 8 * (b.length : Int) := by omega
                      have hdec : decide ((p : Int) < 8 * (b.length : Int)) = false := decide_eq_false ham'
                      have hdec2 : decide (p < 8 * b.length) = false := decide_eq_false ham
                      have HPE : Hid ((p : Int) = 8 * (b.length : Int)) := Lib.hid (by omega)
                      have HMS := HSH.out m hmn HM.out.1 (by omega)
                      have HK2 : Hid (hf.Found l b a (j + 1) f ∧ hf.Begs l b a (j + 1) true ∧ Below wr.heap.size wr wy) := Lib.hid ⟨HK.out.1.miss HMS.1, hf.Begs.hit HMS.2, HWY.out⟩
                      clear HM HMS HK hpe hp hbel
                      go_wp2
                      go_quiet (fail)
                      have hpeq := HPE.out
                      go_wp2
                      exact ⟨⟨j + 1, f, true, by omega, by push_cast; rfl, rfl, rfl, Lib.hid ⟨HK2.out.1, HK2.out.2.1, bdrewN HK2.out.2.2 _⟩⟩, by simp [intOf]; omega⟩
                  · obtain rfl : m = nn := by omega
                    have hmn' : ¬ (m : Int) < (m : Int) := by omega
                    have HMS := HHIT.out HM.out.1 hm2
                    have HK2 : Hid (hf.Found l b a (j + 1) (j : Int) ∧ hf.Begs l b a (j + 1) g ∧ Below wr.heap.size wr wy) := Lib.hid ⟨hf.Found.hit HMS.1, HK.out.2.1.miss HMS.2, HWY.out⟩
                    clear HM HMS HK hp hbel
                    go_wp2
                    go_quiet (fail)
                    go_wp2
                    exact ⟨⟨j + 1, (j : Int), g, by omega, by push_cast; rfl, rfl, rfl, Lib.hid ⟨HK2.out.1, HK2.out.2.1, bdrewN HK2.out.2.2 _⟩⟩, by simp [intOf]; omega⟩
            · obtain rfl : j = l.length := by omega
              have hjl' : ¬ ((l.length : Int) < (l.length : Int)) := by omega
              obtain ⟨hFo, hBe, hBy⟩ := HK.out
              obtain ⟨hD, hO, hBr⟩ := HJ.out
              have hBx : Below w.heap.size w wx := HBW.out.trans (hBy.mono HBW.out.size)
              by_cases hf0 : f < 0
              · cases g with
                | true =>
                  have HE := Lib.hid (HBADx.out (k + 1) (by omega) 5 (by decide) (hf.decTo_err hD (hFo.short hf0 hBe) (by decide)) wx hBx)
                  clear HK HJ hFo hBe hBy hD hO hBr hBx
                  go_wp2
                  go_ret2
                  exact HE.out
                | false =>
                  have HE := Lib.hid (HBADx.out (k + 1) (by omega) 7 (by decide) (hf.decTo_err hD (hFo.miss_all hf0 hBe) (by decide)) wx hBx)
                  clear HK HJ hFo hBe hBy hD hO hBr hBx
                  go_wp2
                  go_ret2
                  exact HE.out
              · obtain ⟨hnx, t, ht, rfl⟩ := hFo.next HF.out (by omega)
                obtain ⟨bl, ol, rfl, _, hc1⟩ := int_at (HL.out.below hBx) ht
                have hb8 := hf.nextOf_bound (l := l) (b := b) (a := a) (by rw [hnx])
                rw [hnx] at hb8
                have hts : (t : Int) < (l.length : Int) := by omega
                have h40 := ((hf.fits_iff l).1 HF.out).2.1 t ht
                have hlN : hf.lenN l (t : Int) = (l.getD t 0).toNat := by unfold hf.lenN; rw [hf.len_nat]
                obtain ⟨nn, hnn⟩ : ∃ nn : Nat, l.getD t 0 = nn := ⟨(l.getD t 0).toNat, by omega⟩
                rw [hnn] at hc1 h40 hlN
                have hlN2 : hf.lenN l (t : Int) = nn := by rw [hlN]; omega
                rw [hlN2] at hb8
                have HDS : Hid (hf.decTo l b (k + 1) = (L ++ [(t : Int)], a + nn, 0)) := Lib.hid (by rw [← hlN2]; exact hf.decTo_ok hD hnx)
                have HO := Lib.hid (hO.next hBy)
                have HBB : Hid (Below w1.heap.size w1 wx) := Lib.hid (hBr.trans (hBy.mono hBr.size))
                have hzz : w1.heap.size ≤ wx.heap.size := HBB.out.size
                have hb8' : a + nn ≤ 8 * b.length := hb8
                clear HK HJ hFo hBe hBy hD hO hBr hBx hnx hnn hlN hlN2 hb8
                go_wp2_with (at_builtin; refine wp_app _ rfl _ _ _ rfl elemInt w1.heap.size A' _ c' _ rfl (HO.out.alloc _) _ 1 1 [.int .i64 t] rfl rfl (Cells.newAt _ _ _ (by simp)) (by simp [Value.oneCell']) (by omega) (by unfold maxLen; omega) (by simp; omega) ?_; intro A4 c4 w4 hO4 hg4; have HX4 : Hid (Own w4 w1.heap.size 3 1 A4 (n + 1) c4 ((L ++ [(t : Int)]).map intv) ∧ Below w1.heap.size w1 w4) := Lib.hid ⟨by rw [List.map_append]; exact hO4, Grew.step (balloc HBB.out _) hg4 (fun g hg => (HO.out.lt g hg).1)⟩; clear hO4 hg4)
                go_roundw
                case rel => exact ⟨k + 1, a + nn, n + 1, c4, L ++ [(t : Int)], A4, by omega, by omega, hb8', by go_num, by go_num, rfl, Lib.hid ⟨HDS.out, HX4.out.1, HX4.out.2⟩⟩
                case measure => simp [intOf]; omega
        · have hkc : k = cnt := by omega
          subst hkc
          obtain ⟨h1, h2, h3⟩ := HJ.out
          have HE := Lib.hid (HOKx.out L a h1 A' n c' wr (HBC.out.trans (h3.mono HBC.out.size)) (h2.base_le HBC.out.size))
          have hlt' : ¬ ((k : Int) < (k : Int)) := by omega
          clear HJ h1 h2 h3
          go_wp2
          go_ret2
          exact HE.out
    · have HE : Hid (∀ wx, Below w.heap.size w wx → DecPost l b count w (.returned (.tuple #[.slice none 0 0, .int .i64 2])) wx) := Lib.hid (fun wx hx => ⟨hx, fun h => absurd hm h, fun _ _ => rfl, fun _ k hk h4 => absurd ⟨by omega, by omega⟩ hr, fun _ k hk h4 => absurd ⟨by omega, by omega⟩ hr⟩)
      by_cases h0 : count < 0
      · go_enter Try.func21, Try.ntmps21
        go_wp2_with (go_at_call 17; refine HCO.out.mono ?_; intro e w1 h; obtain ⟨gc, rfl, hoc, hbc⟩ := e0 _ _ _ h; clear h; have HE2 := Lib.hid (HE.out _ hbc); clear hoc hbc)
        go_ret2
        exact HE2.out
      · have h4 : 4096 < count := by omega
        go_enter Try.func21, Try.ntmps21
        go_wp2_with (go_at_call 17; refine HCO.out.mono ?_; intro e w1 h; obtain ⟨gc, rfl, hoc, hbc⟩ := e0 _ _ _ h; clear h; have HE2 := Lib.hid (HE.out _ hbc); clear hoc hbc)
        go_ret2
        exact HE2.out
  · have HE : Hid (∀ wx, Below w.heap.size w wx → DecPost l b count w (.returned (.tuple #[.slice none 0 0, .int .i64 4])) wx) := Lib.hid (fun wx hx => ⟨hx, fun _ => rfl, fun h => absurd h hm, fun h => absurd h hm, fun h => absurd h hm⟩)
    have e0 : ∀ w e w', CodesPost l w e w' → e = .returned (.tuple #[.slice none 0 0, .int .i64 4]) ∧ Below w.heap.size w w' := fun w e w' h => by unfold CodesPost at h; rwa [if_neg hm] at h
    go_enter Try.func21, Try.ntmps21
    go_wp2_with (go_at_call 17; refine HCO.out.mono ?_; intro e w1 h; obtain ⟨rfl, hb1⟩ := e0 _ _ _ h; clear h; have HE2 := Lib.hid (HE.out _ hb1); clear hb1)
    go_ret2
    exact HE2.out
end Go.Proofs.Ytbklccknohmibaa
