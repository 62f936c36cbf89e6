/- Package huff: the reference's HuffEncoded. No condition. -/
import Derived.Test.YtbklccknohmibaaHuff5
import Derived.Test.YtbklccknohmibaaHuffE1
import Derived.Deep.RegionLaw
namespace Go.Proofs.Ytbklccknohmibaa
open Go.RowKit
set_option linter.unusedSimpArgs false

theorem shr128 {r : Nat} (hr : r < 8) : 128 / 2 ^ r = 2 ^ (7 - r) := by
  have c : r = 0 ∨ r = 1 ∨ r = 2 ∨ r = 3 ∨ r = 4 ∨ r = 5 ∨ r = 6 ∨ r = 7 := by omega
  rcases c with rfl | rfl | rfl | rfl | rfl | rfl | rfl | rfl <;> rfl

set_option maxRecDepth 100000 in
set_option maxHeartbeats 4000000 in
theorem ref_HuffEncoded (l S : List Int) (A A2 : Option Addr) (c c2 : Nat) (w : World) (hl : SlRep Rep.int w (· < w.heap.size) l A c) (hs : SlRep Rep.int w (· < w.heap.size) S A2 c2) (hn : l.length ≤ 9223372036854775807) (hS : S.length ≤ 1048576) :
    Calls Try.prog 19 #[.slice A l.length c, .slice A2 S.length c2] w (EncPost l S w) := by
  have HL := Lib.hid hl
  have HS := Lib.hid hs
  have HCO := Lib.hid (ref_HuffCodes l A c w hl hn)
  clear hl hs
  by_cases hm : hf.may l = true
  · have hft := hf.may_iff.1 hm
    have HF := Lib.hid hft
    have h64 := hft.1
    have e0 : ∀ w e w', CodesPost l w e w' → ∃ g : Nat, e = .returned (.tuple #[.slice (some ⟨g, 0, none⟩) l.length l.length, .int .i64 0]) ∧ OI w' w.heap.size g l.length l.length (hf.codes l) ∧ Below w.heap.size w w' := fun w e w' h => by unfold CodesPost at h; rwa [if_pos hm] at h
    have HBAD : Hid (∀ s ∈ S, ¬ hf.has l s → ∀ wx, Below w.heap.size w wx → EncPost l S w (.returned (.tuple #[.slice none 0 0, .int .i64 7])) wx) := Lib.hid (fun s hs hns wx hb => ⟨hb, fun _ h => absurd (h s hs) hns, fun _ _ => rfl, fun h => absurd hm h⟩)
    have HOK : Hid ((∀ s ∈ S, hf.has l s) → ∀ (A' : Option Addr) (c' n : Nat) wx, Below w.heap.size w wx → Own wx w.heap.size 5 1 A' n c' ((hf.pack (hf.allBits l S)).map bytev) → EncPost l S w (.returned (.tuple #[.slice A' n c', .int .i64 0])) wx) := Lib.hid (fun h A' c' n wx hb ho => ⟨hb, fun _ _ => by
      have hn : n = (hf.pack (hf.allBits l S)).length := by have := ho.len; simp at this; omega
      subst hn
      exact ⟨A', c', rfl, ho⟩, fun _ h2 => absurd h h2, fun h => absurd hm h⟩)
    clear hm hft
    go_enter Try.func19, Try.ntmps19
    go_wp2_with (go_at_call 17; refine HCO.out.mono ?_; intro e w1 h; obtain ⟨gc, rfl, hoc, hbc⟩ := e0 _ _ _ h; clear h; have HOC := Lib.hid hoc; have HBC := Lib.hid hbc; clear hoc hbc)
    have HG : Hid (w.heap.size ≤ gc ∧ gc < w1.heap.size) := Lib.hid HOC.out.lt
    go_loopw [8, 25] (fun bts i wr => ∃ (k m c' : Nat) (A' : Option Addr), k ≤ S.length ∧ i = .int .i64 k ∧ bts = .slice A' m c' ∧ m ≤ 40 * k ∧ Hid (m = (hf.allBits l (S.take k)).length ∧ (∀ s ∈ S.take k, hf.has l s) ∧ Own wr w1.heap.size 5 1 A' m c' ((hf.allBits l (S.take k)).map bytev) ∧ Below w1.heap.size w1 wr)) (fun _ i _ => S.length - (intOf i).toNat)
    case atStart => exact ⟨0, 0, 0, none, by omega, rfl, rfl, by omega, Lib.hid ⟨rfl, fun s hs => by simp at hs, (by rw [show hf.allBits l (S.take 0) = [] by simp [hf.allBits]]; exact Own.nil _ _ _ _), Below.refl _ _⟩⟩
    case round =>
      obtain ⟨k, m, c', A', hk, rfl, rfl, hB40, HJ⟩ := hrel
      rename World => wr
      by_cases hlt : k < S.length
      · obtain ⟨hBl, hhas, hO, hBr⟩ := HJ.out
        have hBw : Below w.heap.size w wr := HBC.out.trans (hBr.mono HBC.out.size)
        obtain ⟨bs, os, rfl, _, hcs⟩ := int_at (HS.out.below hBw) hlt
        have hlt' : (k : Int) < (S.length : Int) := by omega
        have hmem : S.getD k 0 ∈ S := by rw [List.getD_eq_getElem?_getD, List.getElem?_eq_getElem hlt]; exact List.getElem_mem hlt
        generalize hs : S.getD k 0 = s at *
        have HSK := Lib.hid hs
        clear hs
        by_cases h1 : s < 0
        · have HE := Lib.hid (HBAD.out s hmem (fun h => by have := h.1; omega) wr hBw)
          clear HJ hO hhas hBr hBl
          go_wp2
          go_ret2
          exact HE.out
        · by_cases h2 : (l.length : Int) ≤ s
          · have HE := Lib.hid (HBAD.out s hmem (fun h => by have := h.2.1; omega) wr hBw)
            clear HJ hO hhas hBr hBl
            go_wp2
            go_ret2
            exact HE.out
          · obtain ⟨j, rfl⟩ : ∃ j : Nat, s = j := ⟨s.toNat, by omega⟩
            have hj : j < l.length := by omega
            have h2' : (j : Int) < (l.length : Int) := by omega
            obtain ⟨bl, ol, rfl, _, hcl⟩ := int_at (HL.out.below hBw) hj
            by_cases h3 : l.getD j 0 = 0
            · have HE := Lib.hid (HBAD.out (j : Int) hmem (fun h => h.2.2 (by rw [hf.len_nat]; exact h3)) wr hBw)
              rw [h3] at hcl
              clear HJ hO hhas hBr hBl
              go_wp2
              go_ret2
              exact HE.out
            · have hft := HF.out
              have hn1 := hf.fits_len hft (hf.mem_syms.2 ⟨j, hj, by have := ((hf.fits_iff l).1 hft).2.1 j hj; omega, rfl⟩)
              rw [hf.len_nat] at hn1
              obtain ⟨nn, hnn⟩ : ∃ nn : Nat, l.getD j 0 = nn := ⟨(l.getD j 0).toNat, by omega⟩
              rw [hnn] at hn1 hcl h3
              obtain ⟨cd, hcd⟩ : ∃ cd : Nat, hf.codeOf l j = cd := ⟨(hf.codeOf l j).toNat, by have := hf.codeOf_bd hft j; omega⟩
              have hcb := hf.codeOf_bd hft j
              rw [hcd] at hcb
              have HCB : Hid (hf.codeBits l j = hf.bitsOf cd nn nn) := Lib.hid (by unfold hf.codeBits; rw [hcd, hf.len_nat, hnn]; rfl)
              have HCC : Hid (∀ wx, Below w1.heap.size w1 wx → wx.cell? ⟨gc, j, none⟩ = some (.int .i64 cd)) := Lib.hid (fun wx hx => by
                have h := Own.below HOC.out hx (fun k hk => (Own.lt HOC.out k hk).2)
                exact OI.at h (by rw [hf.codes_at hj, hcd]))
              have HLL : Hid (∀ wx, Below w1.heap.size w1 wx → wx.cell? ⟨bl, ol + j, none⟩ = some (.int .i64 nn)) := Lib.hid (fun wx hx => by
                obtain ⟨b3, o3, e3, _, h3⟩ := int_at (HL.out.below (HBC.out.trans (hx.mono HBC.out.size))) hj
                simp only [Option.some.injEq, Addr.mk.injEq, and_true] at e3
                obtain ⟨rfl, rfl⟩ := e3
                rw [h3, hnn])
              have HAT : Hid (hf.allBits l (S.take (k + 1)) = hf.allBits l (S.take k) ++ hf.bitsOf cd nn nn) := Lib.hid (by rw [hf.allBits_take hlt, HSK.out, HCB.out])
              have HHS : Hid (∀ x ∈ S.take (k + 1), hf.has l x) := Lib.hid (by
                rw [List.take_succ_eq_append_getElem hlt]
                intro x hx
                rcases List.mem_append.1 hx with h | h
                · exact hhas x h
                · rw [List.mem_singleton] at h
                  have e : S[k] = (j : Int) := by rw [← HSK.out, List.getD_eq_getElem?_getD, List.getElem?_eq_getElem hlt]; rfl
                  rw [h, e]
                  exact ⟨by omega, by omega, by rw [hf.len_nat, hnn]; omega⟩)
              have HO := Lib.hid hO
              have HBr := Lib.hid hBr
              have HBl := Lib.hid hBl
              generalize hf.allBits l (S.take k) = X at *
              clear HJ hO hBr hhas hBl hcd hnn hft HBAD
              go_wp2
              go_loopw [8, 11] (fun bts kk wx => ∃ (q m1 c1 : Nat) (A1 : Option Addr), q ≤ nn ∧ kk = .int .i64 ((q : Int) + 1) ∧ bts = .slice A1 m1 c1 ∧ Hid (m1 = (X ++ hf.bitsOf cd nn q).length ∧ Own wx w1.heap.size 5 1 A1 m1 c1 ((X ++ hf.bitsOf cd nn q).map bytev) ∧ Below w1.heap.size w1 wx)) (fun _ kk _ => ((nn : Int) + 1 - intOf kk).toNat)
              case atStart => exact ⟨0, m, c', A', by omega, rfl, rfl, Lib.hid ⟨by simpa [hf.bitsOf] using HBl.out, by simpa [hf.bitsOf] using HO.out, HBr.out⟩⟩
              case round =>
                obtain ⟨q, m1, c1, A1, hq, rfl, rfl, HJ⟩ := hrel
                rename World => wx
                by_cases hqn : q < nn
                · have hge : (q : Int) + 1 ≤ (nn : Int) := by omega
                  obtain ⟨hL, hO, hBx⟩ := HJ.out
                  have hB1 : m1 ≤ 50000000 := by rw [hL, List.length_append, hf.bitsOf_len, ← HBl.out]; omega
                  have HS1 : Hid (X ++ hf.bitsOf cd nn (q + 1) = (X ++ hf.bitsOf cd nn q) ++ [hf.bit cd (nn - 1 - q)]) := Lib.hid (by rw [hf.bitsOf_succ, List.append_assoc])
                  generalize X ++ hf.bitsOf cd nn q = Y at *
                  obtain ⟨kk, hkk⟩ : ∃ kk : Nat, (nn : Int) - ((q : Int) + 1) = kk := ⟨nn - 1 - q, by omega⟩
                  have hkb : kk ≤ 40 := by omega
                  have hwk : IntKind.i64.wrap (kk : Int) = (kk : Int) := by rw [IntKind.wrap_i64]; omega
                  obtain ⟨x, hx⟩ : ∃ x : Nat, hf.bit cd (nn - 1 - q) = x := ⟨_, rfl⟩
                  have hx1 : x ≤ 1 := by rw [← hx]; exact hf.bit_le _ _
                  have hbit : bits BinOp.and IntKind.i64 ((cd : Int) / 2 ^ kk) 1 = (x : Int) := by
                    have h1 : (cd : Int) / 2 ^ kk = ((cd / 2 ^ kk : Nat) : Int) := by push_cast; rfl
                    have hle : cd / 2 ^ kk ≤ cd := Nat.div_le_self _ _
                    rw [h1, and_one _ (by omega), ← hx, show nn - 1 - q = kk by omega]; rfl
                  rw [hx] at HS1
                  have hxm : IntKind.u8.wrap (x : Int) = (x : Int) := by rw [IntKind.wrap_u8]; omega
                  have HCEL : Hid (Cells ((wx.alloc (.cells #[.int .u8 (x : Int)] 5)).drew) (some ⟨wx.heap.size, 0, none⟩) [.int .u8 (x : Int)]) := Lib.hid (Cells.one wx _ _)
                  have HYL := Lib.hid hL
                  have HO2 := Lib.hid hO
                  have HBx := Lib.hid hBx
                  have hwz : w1.heap.size ≤ wx.heap.size := hBx.size
                  have HOY : Hid (∀ o, Own ((wx.alloc o).drew) w1.heap.size 5 1 A1 m1 c1 (Y.map bytev)) := Lib.hid fun o => (hO.alloc o).drew
                  have HBY : Hid (∀ o, Below w1.heap.size w1 ((wx.alloc o).drew)) := Lib.hid fun o => hBx.trans (((balloc (bself wx) o).mono hBx.size).drew)
                  have HSB : Hid (∀ o, w1.heap.size ≤ ((wx.alloc o).drew).heap.size) := Lib.hid fun o => (HBY.out o).size
                  have hc3 := HCC.out _ hBx
                  have hc4 := HLL.out _ hBx
                  clear hL hO hBx HJ hx
                  go_upto_block 3 with fail
                  go_cut [8] (fun bts wy => ∃ (A3 : Option Addr) (c3 : Nat), bts = .slice A3 (m1 + 1) c3 ∧ Hid (m1 + 1 = (X ++ hf.bitsOf cd nn (q + 1)).length ∧ Own wy w1.heap.size 5 1 A3 (m1 + 1) c3 ((X ++ hf.bitsOf cd nn (q + 1)).map bytev) ∧ Below w1.heap.size w1 wy))
                  case first =>
                    have HNX : Hid (m1 + 1 = (X ++ hf.bitsOf cd nn (q + 1)).length ∧ (X ++ hf.bitsOf cd nn (q + 1)).map bytev = Y.map bytev ++ [.int .u8 (x : Int)]) := Lib.hid ⟨by rw [HS1.out, List.length_append, ← HYL.out]; rfl, by rw [HS1.out, List.map_append]; rfl⟩
                    clear HS1
                    go_upto_region 13 with fail
                    go_region_law
                      (first
                        | ((refine step_app _ (by rfl) _ _ _ (by rfl) elemU8 w1.heap.size A1 m1 c1 _ (by rfl) (HOY.out _) (some ⟨_, 0, none⟩) 1 1 [.int .u8 (x : Int)] (by rfl) (by rfl) HCEL.out (by simp [Value.oneCell']) (by omega) (by unfold maxLen; omega) (HSB.out _) ?_; intro A4 c4 w4 hO4 hg4))
                        | fail)
                    all_goals
                      go_wp2
                      go_meet
                      exact ⟨A4, c4, rfl, Lib.hid ⟨HNX.out.1, by rw [HNX.out.2]; exact hO4, Grew.step (HBY.out _) hg4 (fun g hg => (HO2.out.lt g hg).1)⟩⟩
                  case rest =>
                    obtain ⟨A3, c3, rfl, HK⟩ := hcut
                    rename World => wy
                    go_wp2
                    go_roundw
                    case rel => exact ⟨q + 1, m1 + 1, c3, A3, by omega, by push_cast; rfl, rfl, HK⟩
                    case measure => simp [intOf]; omega
                · obtain rfl : q = nn := by omega
                  have hge : ¬ ((q : Int) + 1 ≤ (q : Int)) := by omega
                  have hB2 : m1 ≤ 40 * (k + 1) := by rw [HJ.out.1, List.length_append, hf.bitsOf_len, ← HBl.out]; omega
                  have HJ2 : Hid (m1 = (hf.allBits l (S.take (k + 1))).length ∧ (∀ s ∈ S.take (k + 1), hf.has l s) ∧ Own wx w1.heap.size 5 1 A1 m1 c1 ((hf.allBits l (S.take (k + 1))).map bytev) ∧ Below w1.heap.size w1 wx) := Lib.hid ⟨by rw [HAT.out]; exact HJ.out.1, HHS.out, by rw [HAT.out]; exact HJ.out.2.1, HJ.out.2.2⟩
                  have hc4 := HLL.out wx HJ.out.2.2
                  clear HJ HAT HHS
                  go_wp2
                  go_roundw
                  case rel => exact ⟨k + 1, m1, c1, A1, by omega, by go_num, rfl, hB2, HJ2⟩
                  case measure => simp [intOf]; omega
      · obtain rfl : k = S.length := by omega
        obtain ⟨hL, hhas, hO, hBr⟩ := HJ.out
        have HB3 := Lib.hid (hf.allBits_bits l S)
        have HEND : Hid (∀ wx, Below w1.heap.size w1 wx → Own wx w1.heap.size 5 1 (some ⟨wr.heap.size, 0, none⟩) ((m + 7) / 8) ((m + 7) / 8) ((hf.packN ((m + 7) / 8) (hf.allBits l S)).map bytev) → EncPost l S w (.returned (.tuple #[.slice (some ⟨wr.heap.size, 0, none⟩) ((m + 7) / 8) ((m + 7) / 8), .int .i64 0])) wx) := Lib.hid (fun wx hx ho => by
          rw [List.take_length] at hhas hL
          exact HOK.out hhas _ _ _ wx (HBC.out.trans (hx.mono HBC.out.size)) (by
            unfold hf.pack
            rw [← hL]
            exact ho.base_le HBC.out.size))
        rw [List.take_length] at hO hL
        generalize hf.allBits l S = X at *
        have HYL := Lib.hid hL
        obtain ⟨N, hN⟩ : ∃ N : Nat, N = (m + 7) / 8 := ⟨_, rfl⟩
        rw [← hN] at HEND
        have HNN := Lib.hid hN
        have eN : ((m : Int) + 7) / 8 = (N : Int) := by omega
        have hNb : N ≤ 50000000 := by omega
        have hmb : m ≤ 50000000 := by omega
        have hmk := make_row (P := Try.prog) (i := Try.t5) (z := .int .u8 0) Try.underlying22 (by kernel_rfl) (by kernel_rfl) rfl rfl N (N : Int) rfl (by show 1 * _ ≤ _; omega) (by omega)
        have HZ : Hid (Own (wr.alloc (.cells (Array.replicate N (.int .u8 0)) 5)) w1.heap.size 5 1 (some ⟨wr.heap.size, 0, none⟩) N N ((hf.packN N []).map bytev)) := Lib.hid (by
          have h := Own.lit wr w1.heap.size 5 1 N (List.replicate N (.int .u8 0)) hBr.size (by simp) (by unfold maxLen; omega)
          rw [List.toArray_replicate] at h
          rw [hf.packN_nil, List.map_replicate]
          exact h)
        have HO := Lib.hid hO
        have HBR := Lib.hid hBr
        clear hL hO hBr hN HJ hhas HBAD HOK
        go_wp2
        go_loopw [76] (fun i wy => ∃ k : Nat, k ≤ m ∧ i = .int .i64 k ∧ Hid (Own wy w1.heap.size 5 1 (some ⟨wr.heap.size, 0, none⟩) N N ((hf.packN N (X.take k)).map bytev) ∧ Own wy w1.heap.size 5 1 A' m c' (X.map bytev) ∧ Below w1.heap.size w1 wy)) (fun i _ => m - (intOf i).toNat)
        case atStart => exact ⟨0, by omega, rfl, Lib.hid ⟨by rw [List.take_zero]; exact HZ.out, HO.out.alloc _, HBR.out.trans ((balloc (bself wr) _).mono HBR.out.size)⟩⟩
        case round =>
          obtain ⟨k, hk, rfl, HK⟩ := hrel
          rename World => wy
          by_cases hlt : k < m
          · have hlt2 : (k : Int) < (m : Int) := by omega
            obtain ⟨h1, h2, h3⟩ := HK.out
            have hkX : k < X.length := by rw [← HYL.out]; exact hlt
            obtain ⟨x, hx⟩ : ∃ x : Nat, X[k]? = some x := ⟨_, List.getElem?_eq_getElem hkX⟩
            have hx1 : x ≤ 1 := HB3.out x (List.mem_of_getElem? hx)
            obtain ⟨ga, hga, hga1, hga2, hcx⟩ := Own.cell h2 (j := k) (u := bytev x) (by rw [List.getElem?_map, hx]; rfl)
            have hgl := (HO.out.lt ga (by rw [hga]; rfl)).2
            subst hga
            have HT : Hid (X.take (k + 1) = X.take k ++ [x]) := Lib.hid (by obtain ⟨a1, a2⟩ := List.getElem?_eq_some_iff.1 hx; rw [List.take_succ_eq_append_getElem a1, a2])
            have HTL : Hid ((X.take k).length = k) := Lib.hid (by rw [List.length_take]; omega)
            unfold bytev at hcx
            have c01 : x = 0 ∨ x = 1 := by omega
            clear hx
            rcases c01 with rfl | rfl
            · have HN2 : Hid (Own wy w1.heap.size 5 1 (some ⟨wr.heap.size, 0, none⟩) N N ((hf.packN N (X.take (k + 1))).map bytev) ∧ Own wy w1.heap.size 5 1 (some ⟨ga, 0, none⟩) m c' (X.map bytev) ∧ Below w1.heap.size w1 wy) := Lib.hid ⟨by rw [HT.out, hf.packN_zero]; exact h1, h2, h3⟩
              clear HK h1 h2 h3
              go_wp2
              go_roundw
              case rel => exact ⟨k + 1, by omega, by go_num, HN2⟩
              case measure => simp [intOf]; omega
            · obtain ⟨q8, hq8⟩ : ∃ q8 : Nat, q8 = k / 8 := ⟨_, rfl⟩
              obtain ⟨r, hr⟩ : ∃ r : Nat, r = k % 8 := ⟨_, rfl⟩
              have e8 : (k : Int) / 8 = (q8 : Int) := by omega
              have er : (k : Int) % 8 = (r : Int) := by omega
              have hr8 : r < 8 := by omega
              have hqN : q8 < N := by have := HNN.out; omega
              have hqN2 : (q8 : Int) < (N : Int) := by omega
              obtain ⟨v, hv⟩ : ∃ v, hf.byteAt (X.take k) q8 = v := ⟨_, rfl⟩
              obtain ⟨_, e9, _, _, hc8⟩ := Own.cell h1 (j := q8) (u := bytev v) (by rw [List.getElem?_map, hf.packN_at hqN, hv]; rfl)
              simp only [Option.some.injEq, Addr.mk.injEq, and_true] at e9
              subst e9
              unfold bytev at hc8
              have hgn : ga ≠ wr.heap.size := by omega
              have hfr := h1.frozenAt q8
              have HV := Lib.hid hv
              have HNX : Hid (∀ u : Nat, u = v + 2 ^ (7 - r) → Own ((wy.setCell ⟨wr.heap.size, q8, none⟩ (.int .u8 (u : Int))).drew) w1.heap.size 5 1 (some ⟨wr.heap.size, 0, none⟩) N N ((hf.packN N (X.take (k + 1))).map bytev) ∧ Own ((wy.setCell ⟨wr.heap.size, q8, none⟩ (.int .u8 (u : Int))).drew) w1.heap.size 5 1 (some ⟨ga, 0, none⟩) m c' (X.map bytev) ∧ Below w1.heap.size w1 ((wy.setCell ⟨wr.heap.size, q8, none⟩ (.int .u8 (u : Int))).drew)) := Lib.hid (fun u hu => by
                refine ⟨?_, ?_, ?_⟩
                · have h := h1.setAt (j := q8) (bytev u)
                  rw [HT.out, hf.packN_snoc, HTL.out, ← hq8, ← hr, List.map_set, HV.out, Nat.one_mul, ← hu]
                  exact h
                · exact h2.setCell (p := ⟨wr.heap.size, q8, none⟩) (fun e => hgn (by simpa [blkOf] using e)) _
                · exact (h3.setCell (p := ⟨wr.heap.size, q8, none⟩) HBR.out.size _).drew)
              have HVB : Hid (v + 2 ^ (7 - r) ≤ 255) := Lib.hid (by
                have h := hf.byteAt_le (B := X.take k ++ [1]) (fun y hy => by rw [← HT.out] at hy; exact HB3.out y (List.mem_of_mem_take hy)) q8
                rw [hf.byteAt_snoc, HTL.out, if_pos hq8, ← hr, HV.out, Nat.one_mul] at h
                exact h)
              clear HK h1 h2 h3 hv hq8 hr
              go_wp2
              go_region
              have HOB : ((v : Int) + 128 / 2 ^ r) % 256 = ((v + 2 ^ (7 - r) : Nat) : Int) := by
                have h1 : (128 : Int) / 2 ^ r = ((2 ^ (7 - r) : Nat) : Int) := by rw [← shr128 hr8]; push_cast; rfl
                have h2 := HVB.out
                rw [h1]
                generalize 2 ^ (7 - r) = z at *
                push_cast
                omega
              rw [HOB]
              obtain ⟨w5, hw5⟩ : ∃ w5, w5 = ((wy.setCell ⟨wr.heap.size, q8, none⟩ (.int .u8 ((v + 2 ^ (7 - r) : Nat) : Int))).drew) := ⟨_, rfl⟩
              have HN5 := Lib.hid (HNX.out _ rfl)
              rw [← hw5] at HN5 ⊢
              clear hw5 HNX
              go_wp2
              go_roundw
              case rel => exact ⟨k + 1, by omega, by go_num, HN5⟩
              case measure => simp [intOf]; omega
          · obtain rfl : k = m := by omega
            have HE := Lib.hid (HEND.out wy HK.out.2.2 (by have h := HK.out.1; rwa [show X.take k = X by rw [HYL.out, List.take_length]] at h))
            clear HK
            go_wp2
            go_ret2
            exact HE.out
  · have HE : Hid (∀ w1, Below w.heap.size w w1 → EncPost l S w (.returned (.tuple #[.slice none 0 0, .int .i64 4])) w1) := Lib.hid (fun w1 h1 => ⟨h1, fun h => absurd h hm, fun h => absurd h hm, fun _ => rfl⟩)
    have e0 : ∀ w e w', CodesPost l w e w' → e = .returned (.tuple #[.slice none 0 0, .int .i64 4]) ∧ Below w.heap.size w w' := fun w e w' h => by unfold CodesPost at h; rwa [if_neg hm] at h
    go_enter Try.func19, Try.ntmps19
    go_wp2_with (go_at_call 17; refine HCO.out.mono ?_; intro e w1 h; obtain ⟨rfl, hb1⟩ := e0 _ _ _ h; clear h; have HE1 := Lib.hid (HE.out w1 hb1); clear hb1)
    go_ret2
    exact HE1.out
end Go.Proofs.Ytbklccknohmibaa
