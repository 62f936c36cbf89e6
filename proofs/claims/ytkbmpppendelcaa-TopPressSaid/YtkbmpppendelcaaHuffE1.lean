/- Package huff: Encode. No condition. -/
import Derived.Test.YtkbmpppendelcaaHuff3
import Derived.Test.YtkbmpppendelcaaPrA
import Derived.RegionTactic
import Derived.BigRegion
import Derived.Deep.CutBlock
import Derived.Laws.BitsAllLaws
import Derived.Lib.RabinKarpLaws
namespace Go.Proofs.Ytkbmpppendelcaa
open Go.RowKit
set_option linter.unusedSimpArgs false

def bytev (v : Nat) : Value := .int .u8 (v : Int)

theorem or_bit (v cd kk r : Nat) (hv : v ≤ 255) (hlow : v % 2 ^ (8 - r) = 0) (hr : r < 8) (hcd : cd ≤ 1099511627776) : bits BinOp.or IntKind.u8 (v : Int) (bits BinOp.and IntKind.i64 ((cd : Int) / 2 ^ kk) 1 % 256 * 2 ^ (7 - r) % 256) = ((v + hf.bit cd kk * 2 ^ (7 - r) : Nat) : Int) := by
  have h1 : (cd : Int) / 2 ^ kk = ((cd / 2 ^ kk : Nat) : Int) := by push_cast; rfl
  have hle : cd / 2 ^ kk ≤ cd := Nat.div_le_self _ _
  have hb := hf.bit_le cd kk
  have h2 : hf.bit cd kk * 2 ^ (7 - r) ≤ 1 * 128 := Nat.mul_le_mul hb (Nat.pow_le_pow_right (by decide) (by omega : 7 - r ≤ 7))
  rw [h1, and_one _ (by omega)]
  have h3 : (((cd / 2 ^ kk % 2 : Nat) : Int) % 256) * 2 ^ (7 - r) % 256 = ((hf.bit cd kk * 2 ^ (7 - r) : Nat) : Int) := by
    have e1 : ((cd / 2 ^ kk % 2 : Nat) : Int) % 256 = ((hf.bit cd kk : Nat) : Int) := by unfold hf.bit at *; omega
    rw [e1]
    have e2 : ((hf.bit cd kk : Nat) : Int) * 2 ^ (7 - r) = ((hf.bit cd kk * 2 ^ (7 - r) : Nat) : Int) := by push_cast; rfl
    rw [e2]
    generalize hf.bit cd kk * 2 ^ (7 - r) = z at *
    omega
  rw [h3, u8_or_nat _ _ (by omega) (by omega), hf.or_sum hr hlow hb]

/-- what Encode answers -/
def EncPost (l S : List Int) (w : World) (e : Ending) (w' : World) : Prop := Below w.heap.size w w' ∧
  (hf.may l = true → (∀ s ∈ S, hf.has l s) → ∃ (A' : Option Addr) (c' : Nat), e = .returned (.tuple #[.slice A' (hf.pack (hf.allBits l S)).length c', .int .i64 0]) ∧ Own w' w.heap.size 5 1 A' (hf.pack (hf.allBits l S)).length c' ((hf.pack (hf.allBits l S)).map bytev)) ∧
  (hf.may l = true → ¬ (∀ s ∈ S, hf.has l s) → e = .returned (.tuple #[.slice none 0 0, .int .i64 7])) ∧
  (¬ hf.may l = true → e = .returned (.tuple #[.slice none 0 0, .int .i64 4]))

set_option maxRecDepth 100000 in
set_option maxHeartbeats 4000000 in
theorem huff_Encode (l S : List Int) (A A2 : Option Addr) (c c2 : Nat) (w : World) (hl : SlRep Rep.int w (· < w.heap.size) l A c) (hs : SlRep Rep.int w (· < w.heap.size) S A2 c2) (hn : l.length ≤ 9223372036854775807) (hS : S.length ≤ 1048576) :
    Calls Try.prog 9 #[.slice A l.length c, .slice A2 S.length c2] w (EncPost l S w) := by
  have HL := Lib.hid hl
  have HS := Lib.hid hs
  have HMY := Lib.hid (huff_may l A c _ w hl hn)
  clear hl hs
  by_cases hm : hf.may l = true
  · have hft := hf.may_iff.1 hm
    have HF := Lib.hid hft
    have h64 := hft.1
    have HCO := Lib.hid (huff_codes l A c w HL.out hft)
    rw [hm] at HMY
    have HBAD : Hid (∀ s ∈ S, ¬ hf.has l s → ∀ wx, Below w.heap.size w wx → EncPost l S w (.returned (.tuple #[.slice none 0 0, .int .i64 7])) wx) := Lib.hid (fun s hs hns wx hb => ⟨hb, fun _ h => absurd (h s hs) hns, fun _ _ => rfl, fun h => absurd hm h⟩)
    have HOK : Hid ((∀ s ∈ S, hf.has l s) → ∀ (A' : Option Addr) (c' n : Nat) wx, Below w.heap.size w wx → Own wx w.heap.size 5 1 A' n c' ((hf.pack (hf.allBits l S)).map bytev) → EncPost l S w (.returned (.tuple #[.slice A' n c', .int .i64 0])) wx) := Lib.hid (fun h A' c' n wx hb ho => ⟨hb, fun _ _ => by
      have hn : n = (hf.pack (hf.allBits l S)).length := by have := ho.len; simp at this; omega
      subst hn
      exact ⟨A', c', rfl, ho⟩, fun _ h2 => absurd h h2, fun h => absurd hm h⟩)
    clear hm hft
    go_enter Try.func9, Try.ntmps9
    go_wp2_with (first
      | (go_at_call 25; refine HMY.out.mono ?_; rintro e w' ⟨rfl, rfl⟩)
      | (go_at_call 26; refine HCO.out.mono ?_; rintro e w1 ⟨gc, rfl, hoc, hbc⟩; have HOC := Lib.hid hoc; have HBC := Lib.hid hbc; clear hoc hbc))
    have HG : Hid (w.heap.size ≤ gc ∧ gc < w1.heap.size) := Lib.hid HOC.out.lt
    go_loopw [7, 8, 19] (fun out n i wr => ∃ (k m c' : Nat) (B : Nat) (A' : Option Addr), k ≤ S.length ∧ i = .int .i64 k ∧ out = .slice A' m c' ∧ n = .int .i64 B ∧ B ≤ 40 * k ∧ Hid (B = (hf.allBits l (S.take k)).length ∧ (∀ s ∈ S.take k, hf.has l s) ∧ Own wr w1.heap.size 5 1 A' m c' ((hf.pack (hf.allBits l (S.take k))).map bytev) ∧ Below w1.heap.size w1 wr)) (fun _ _ i _ => S.length - (intOf i).toNat)
    case atStart => exact ⟨0, 0, 0, 0, none, by omega, rfl, rfl, rfl, by omega, Lib.hid ⟨rfl, fun s hs => by simp at hs, (by rw [show hf.pack (hf.allBits l (S.take 0)) = [] by simp [hf.allBits, hf.pack, hf.packN]]; exact Own.nil _ _ _ _), Below.refl _ _⟩⟩
    case round =>
      obtain ⟨k, m, c', B, A', hk, rfl, rfl, rfl, hB40, HJ⟩ := hrel
      rename World => wr
      by_cases hlt : k < S.length
      · obtain ⟨hBl, hhas, hO, hBr⟩ := HJ.out
        have hBw : Below w.heap.size w wr := HBC.out.trans (hBr.mono HBC.out.size)
        obtain ⟨bs, os, rfl, _, hcs⟩ := int_at (HS.out.below hBw) hlt
        have hlt' : (k : Int) < (S.length : Int) := by omega
        have hmem : S.getD k 0 ∈ S := by rw [List.getD_eq_getElem?_getD, List.getElem?_eq_getElem hlt]; exact List.getElem_mem hlt
        generalize hs : S.getD k 0 = s at *
        have HSK := Lib.hid hs
        clear hs
        by_cases h1 : s < 0
        · have HE := Lib.hid (HBAD.out s hmem (fun h => by have := h.1; omega) wr hBw)
          clear HJ hO hhas hBr hBl
          go_wp2
          go_ret2
          exact HE.out
        · by_cases h2 : (l.length : Int) ≤ s
          · have HE := Lib.hid (HBAD.out s hmem (fun h => by have := h.2.1; omega) wr hBw)
            clear HJ hO hhas hBr hBl
            go_wp2
            go_ret2
            exact HE.out
          · obtain ⟨j, rfl⟩ : ∃ j : Nat, s = j := ⟨s.toNat, by omega⟩
            have hj : j < l.length := by omega
            have h2' : (j : Int) < (l.length : Int) := by omega
            obtain ⟨bl, ol, rfl, _, hcl⟩ := int_at (HL.out.below hBw) hj
            by_cases h3 : l.getD j 0 = 0
            · have HE := Lib.hid (HBAD.out (j : Int) hmem (fun h => h.2.2 (by rw [hf.len_nat]; exact h3)) wr hBw)
              rw [h3] at hcl
              clear HJ hO hhas hBr hBl
              go_wp2
              go_ret2
              exact HE.out
            · have hft := HF.out
              have hn1 := hf.fits_len hft (hf.mem_syms.2 ⟨j, hj, by have := ((hf.fits_iff l).1 hft).2.1 j hj; omega, rfl⟩)
              rw [hf.len_nat] at hn1
              obtain ⟨nn, hnn⟩ : ∃ nn : Nat, l.getD j 0 = nn := ⟨(l.getD j 0).toNat, by omega⟩
              rw [hnn] at hn1 hcl h3
              obtain ⟨cd, hcd⟩ : ∃ cd : Nat, hf.codeOf l j = cd := ⟨(hf.codeOf l j).toNat, by have := hf.codeOf_bd hft j; omega⟩
              have hcb := hf.codeOf_bd hft j
              rw [hcd] at hcb
              have HCB : Hid (hf.codeBits l j = hf.bitsOf cd nn nn) := Lib.hid (by unfold hf.codeBits; rw [hcd, hf.len_nat, hnn]; rfl)
              have HCC : Hid (∀ wx, Below w1.heap.size w1 wx → wx.cell? ⟨gc, j, none⟩ = some (.int .i64 cd)) := Lib.hid (fun wx hx => by
                have h := Own.below HOC.out hx (fun k hk => (Own.lt HOC.out k hk).2)
                exact OI.at h (by rw [hf.codes_at hj, hcd]))
              have HLL : Hid (∀ wx, Below w1.heap.size w1 wx → wx.cell? ⟨bl, ol + j, none⟩ = some (.int .i64 nn)) := Lib.hid (fun wx hx => by
                obtain ⟨b3, o3, e3, _, h3⟩ := int_at (HL.out.below (HBC.out.trans (hx.mono HBC.out.size))) hj
                simp only [Option.some.injEq, Addr.mk.injEq, and_true] at e3
                obtain ⟨rfl, rfl⟩ := e3
                rw [h3, hnn])
              have HAT : Hid (hf.allBits l (S.take (k + 1)) = hf.allBits l (S.take k) ++ hf.bitsOf cd nn nn) := Lib.hid (by rw [hf.allBits_take hlt, HSK.out, HCB.out])
              have HHS : Hid (∀ x ∈ S.take (k + 1), hf.has l x) := Lib.hid (by
                rw [List.take_succ_eq_append_getElem hlt]
                intro x hx
                rcases List.mem_append.1 hx with h | h
                · exact hhas x h
                · rw [List.mem_singleton] at h
                  have e : S[k] = (j : Int) := by rw [← HSK.out, List.getD_eq_getElem?_getD, List.getElem?_eq_getElem hlt]; rfl
                  rw [h, e]
                  exact ⟨by omega, by omega, by rw [hf.len_nat, hnn]; omega⟩)
              have HXB := Lib.hid (hf.allBits_bits l (S.take k))
              have HO := Lib.hid hO
              have HBr := Lib.hid hBr
              have HBl := Lib.hid hBl
              generalize hf.allBits l (S.take k) = X at *
              clear HJ hO hBr hhas hBl hcd hnn hft HBAD
              go_wp2
              go_loopw [7, 8, 11] (fun out n kk wx => ∃ (q B1 m1 c1 : Nat) (A1 : Option Addr), q ≤ nn ∧ kk = .int .i64 ((nn : Int) - 1 - q) ∧ out = .slice A1 m1 c1 ∧ n = .int .i64 B1 ∧ Hid (B1 = (X ++ hf.bitsOf cd nn q).length ∧ Own wx w1.heap.size 5 1 A1 m1 c1 ((hf.pack (X ++ hf.bitsOf cd nn q)).map bytev) ∧ Below w1.heap.size w1 wx)) (fun _ _ kk _ => (intOf kk + 1).toNat)
              case atStart => exact ⟨0, B, m, c', A', by omega, by simp, rfl, rfl, Lib.hid ⟨by simpa [hf.bitsOf] using HBl.out, by simpa [hf.bitsOf] using HO.out, HBr.out⟩⟩
              case round =>
                obtain ⟨q, B1, m1, c1, A1, hq, rfl, rfl, rfl, HJ⟩ := hrel
                rename World => wx
                by_cases hqn : q < nn
                · have hge : (0 : Int) ≤ (nn : Int) - 1 - q := by omega
                  obtain ⟨hL, hO, hBx⟩ := HJ.out
                  have hB1 : B1 ≤ 50000000 := by rw [hL, List.length_append, hf.bitsOf_len, ← HBl.out]; omega
                  have HX1 : Hid (hf.Bits (X ++ hf.bitsOf cd nn q)) := Lib.hid (HXB.out.append (hf.bitsOf_bits _ _ _))
                  have HS1 : Hid (X ++ hf.bitsOf cd nn (q + 1) = (X ++ hf.bitsOf cd nn q) ++ [hf.bit cd (nn - 1 - q)]) := Lib.hid (by rw [hf.bitsOf_succ, List.append_assoc])
                  generalize X ++ hf.bitsOf cd nn q = Y at *
                  obtain ⟨q8, hq8⟩ : ∃ q8 : Nat, q8 = B1 / 8 := ⟨_, rfl⟩
                  obtain ⟨r, hr⟩ : ∃ r : Nat, r = B1 % 8 := ⟨_, rfl⟩
                  have e8 : (B1 : Int) / 8 = (q8 : Int) := by omega
                  have er : (B1 : Int) % 8 = (r : Int) := by omega
                  have hr8 : r < 8 := by omega
                  have HQ8 := Lib.hid (show q8 = Y.length / 8 ∧ r = Y.length % 8 by rw [← hL]; exact ⟨hq8, hr⟩)
                  have HYL := Lib.hid hL
                  have HO2 := Lib.hid hO
                  have HBx := Lib.hid hBx
                  clear hq8 hr hL hO hBx HJ
                  go_upto_if 49 with fail
                  go_cut [7] (fun out wy => ∃ (A3 : Option Addr) (c3 : Nat), out = .slice A3 (q8 + 1) c3 ∧ Hid (Own wy w1.heap.size 5 1 A3 (q8 + 1) c3 ((hf.packN (q8 + 1) Y).map bytev) ∧ Below w1.heap.size w1 wy))
                  case first =>
                    have hm1 : m1 = (hf.pack Y).length := by have := HO2.out.len; simp at this; omega
                    have hpl : (hf.pack Y).length = (Y.length + 7) / 8 := hf.packN_len _ _
                    by_cases hr0 : r = 0
                    · have hm1q : m1 = q8 := by have := HQ8.out; omega
                      subst hm1q
                      have HPK : Hid ((hf.packN (m1 + 1) Y).map bytev = (hf.pack Y).map bytev ++ [.int .u8 0]) := Lib.hid (by
                        have h := hf.packN_last (B := Y) (by have := HQ8.out; omega)
                        rw [← HQ8.out.1] at h
                        rw [h, List.map_append]; rfl)
                      have hwz : w1.heap.size ≤ wx.heap.size := HBx.out.size
                      have hm1b : m1 ≤ 50000000 := by omega
                      subst hr0
                      clear hm1 hpl
                      go_wp2_with (at_builtin; refine wp_app _ rfl _ _ _ rfl elemU8 w1.heap.size A1 _ c1 _ rfl (HO2.out.alloc _) _ 1 1 [.int .u8 0] rfl rfl (Cells.newAt _ _ _ (by simp)) (by simp [Value.oneCell']) (by omega) (by unfold maxLen; omega) (by simp; omega) ?_; intro A4 c4 w4 hO4 hg4; have HK4 : Hid (Own w4 w1.heap.size 5 1 A4 (m1 + 1) c4 ((hf.packN (m1 + 1) Y).map bytev) ∧ Below w1.heap.size w1 w4) := Lib.hid ⟨by rw [HPK.out]; exact hO4, Grew.step (balloc HBx.out _) hg4 (fun g hg => (HO2.out.lt g hg).1)⟩; clear hO4 hg4)
                      go_meet
                      exact ⟨A4, c4, rfl, HK4⟩
                    · have hm1q : m1 = q8 + 1 := by have := HQ8.out; omega
                      subst hm1q
                      have HK4 : Hid (Own wx w1.heap.size 5 1 A1 (q8 + 1) c1 ((hf.packN (q8 + 1) Y).map bytev) ∧ Below w1.heap.size w1 wx) := Lib.hid ⟨by
                        have h := hf.pack_mid (B := Y) (by have := HQ8.out; omega)
                        rw [← HQ8.out.1] at h
                        rw [← h]; exact HO2.out, HBx.out⟩
                      clear hm1 hpl
                      have hrb : ((r : Int) == 0) = false := by simp; omega
                      go_wp2
                      go_meet
                      exact ⟨A1, c1, rfl, HK4⟩
                  case rest =>
                    obtain ⟨A3, c3, rfl, HK⟩ := hcut
                    rename World => wy
                    obtain ⟨hO3, hBy⟩ := HK.out
                    obtain ⟨g3, rfl, hg3, hg3b, hc8⟩ := Own.cell hO3 (j := q8) (u := bytev (hf.byteAt Y q8)) (by rw [List.getElem?_map, hf.packN_at (by omega)]; rfl)
                    have hfr := hO3.frozenAt q8
                    have hc9 := HCC.out wy hBy
                    obtain ⟨v, hv⟩ : ∃ v, hf.byteAt Y q8 = v := ⟨_, rfl⟩
                    unfold bytev at hc8
                    rw [hv] at hc8
                    have HV := Lib.hid hv
                    have hgc := HG.out
                    have hne : gc ≠ g3 := by omega
                    obtain ⟨kk, hkk⟩ : ∃ kk : Nat, (nn : Int) - 1 - q = kk := ⟨nn - 1 - q, by omega⟩
                    rw [hkk]
                    clear hO3 hBy hv
                    have hq8l : (q8 : Int) < ((q8 + 1 : Nat) : Int) := by omega
                    have HNX : Hid (∀ u : Nat, u = v + hf.bit cd kk * 2 ^ (7 - r) → B1 + 1 = (X ++ hf.bitsOf cd nn (q + 1)).length ∧ Own ((wy.setCell ⟨g3, q8, none⟩ (.int .u8 (u : Int))).drew) w1.heap.size 5 1 (some ⟨g3, 0, none⟩) (q8 + 1) c3 ((hf.pack (X ++ hf.bitsOf cd nn (q + 1))).map bytev) ∧ Below w1.heap.size w1 ((wy.setCell ⟨g3, q8, none⟩ (.int .u8 (u : Int))).drew)) := Lib.hid (fun u hu => by
                      obtain ⟨y1, y2⟩ := HQ8.out
                      have hkk2 : kk = nn - 1 - q := by omega
                      refine ⟨?_, ?_, ?_⟩
                      · rw [HS1.out, List.length_append, ← HYL.out]; rfl
                      · have h := HK.out.1.setAt (j := q8) (bytev u)
                        rw [HS1.out, hf.pack_snoc, hf.packN_snoc, ← y1, ← y2, List.map_set, ← hkk2, HV.out, ← hu]
                        exact h
                      · exact (HK.out.2.setCell (p := ⟨g3, q8, none⟩) (by omega) _).drew)
                    have HOB := Lib.hid (or_bit v cd kk r (by rw [← HV.out]; exact hf.byteAt_le HX1.out _) (by rw [← HV.out, HQ8.out.1, HQ8.out.2]; exact hf.byteAt_low Y) hr8 (by omega))
                    clear HK
                    go_wp2
                    go_region
                    rw [HOB.out]
                    obtain ⟨w5, hw5⟩ : ∃ w5, w5 = ((wy.setCell ⟨g3, q8, none⟩ (.int .u8 ((v + hf.bit cd kk * 2 ^ (7 - r) : Nat) : Int))).drew) := ⟨_, rfl⟩
                    have HN5 : Hid (B1 + 1 = (X ++ hf.bitsOf cd nn (q + 1)).length ∧ Own w5 w1.heap.size 5 1 (some ⟨g3, 0, none⟩) (q8 + 1) c3 ((hf.pack (X ++ hf.bitsOf cd nn (q + 1))).map bytev) ∧ Below w1.heap.size w1 w5) := Lib.hid (by rw [hw5]; exact HNX.out _ rfl)
                    rw [← hw5]
                    clear hw5 HNX
                    have hkk3 : (kk : Int) - 1 = (nn : Int) - 1 - ((q + 1 : Nat) : Int) := by omega
                    go_wp2
                    go_roundw
                    case rel => exact ⟨q + 1, B1 + 1, q8 + 1, c3, _, by omega, (by first | (congr 1; done) | (congr 1; omega)), rfl, by go_num, HN5⟩
                    case measure => simp [intOf]; omega
                · obtain rfl : q = nn := by omega
                  have hge : ¬ (0 : Int) ≤ (q : Int) - 1 - q := by omega
                  have hB2 : B1 ≤ 40 * (k + 1) := by rw [HJ.out.1, List.length_append, hf.bitsOf_len, ← HBl.out]; omega
                  have HJ2 : Hid (B1 = (hf.allBits l (S.take (k + 1))).length ∧ (∀ s ∈ S.take (k + 1), hf.has l s) ∧ Own wx w1.heap.size 5 1 A1 m1 c1 ((hf.pack (hf.allBits l (S.take (k + 1)))).map bytev) ∧ Below w1.heap.size w1 wx) := Lib.hid ⟨by rw [HAT.out]; exact HJ.out.1, HHS.out, by rw [HAT.out]; exact HJ.out.2.1, HJ.out.2.2⟩
                  clear HJ HAT HHS
                  go_wp2
                  go_roundw
                  case rel => exact ⟨k + 1, m1, c1, B1, A1, by omega, by go_num, rfl, rfl, hB2, HJ2⟩
                  case measure => simp [intOf]; omega
      · obtain rfl : k = S.length := by omega
        have HE : Hid (EncPost l S w (.returned (.tuple #[.slice A' m c', .int .i64 0])) wr) := Lib.hid (by
          obtain ⟨h1, h2, h3, h4⟩ := HJ.out
          rw [List.take_length] at h2 h3
          exact HOK.out h2 A' c' m wr (HBC.out.trans (h4.mono HBC.out.size)) (h3.base_le HBC.out.size))
        clear HJ HBAD HOK
        go_wp2
        go_ret2
        exact HE.out
  · have hmf : hf.may l = false := by cases h : hf.may l <;> simp_all
    have HE : Hid (EncPost l S w (.returned (.tuple #[.slice none 0 0, .int .i64 4])) w) := Lib.hid ⟨Below.refl _ _, fun h => absurd h hm, fun h => absurd h hm, fun _ => rfl⟩
    rw [hmf] at HMY
    go_enter Try.func9, Try.ntmps9
    go_wp2_with (go_at_call 25; refine HMY.out.mono ?_; rintro e w' ⟨rfl, rfl⟩)
    go_ret2
    exact HE.out
end Go.Proofs.Ytkbmpppendelcaa
