/- Package huff: next. No condition. -/
import Derived.Test.YtkbmpppendelcaaHuffD1
import Derived.Test.YtkbmpppendelcaaHuffE1
namespace Go.Proofs.Ytkbmpppendelcaa
open Go.RowKit Go.Maps Go.WideShapes Go.ChangeMaps Go.MapKept
set_option linter.unusedSimpArgs false

namespace hf
/-- none of at most q bits stands here -/
def NoHit (l : List Int) (b : List UInt8) (a q : Nat) : Prop := ∀ s, s ∈ syms l → lenN l s ≤ q → numAt b a (lenN l s) ≠ codeN l s
end hf
theorem or_bit1 (z x : Nat) (hz : z ≤ 1099511627776) (hx : x ≤ 1) : bits .or .i64 ((z : Int) * 2) (x : Int) = ((2 * z + x : Nat) : Int) := by
  have t1 : (BitVec.ofInt 64 ((z : Int) * 2)).toNat = z * 2 := by
    rw [show ((z : Int) * 2) = ((z * 2 : Nat) : Int) by omega, BitVec.ofInt_natCast, BitVec.toNat_ofNat]; exact Nat.mod_eq_of_lt (by omega)
  have t2 : (BitVec.ofInt 64 (x : Int)).toNat = x := by
    rw [BitVec.ofInt_natCast, BitVec.toNat_ofNat]; exact Nat.mod_eq_of_lt (by omega)
  have h := Nat.two_pow_add_eq_or_of_lt (i := 1) (b := x) (by omega) z
  show IntKind.i64.wrap ((BitVec.ofInt 64 ((z : Int) * 2) ||| BitVec.ofInt 64 (x : Int)).toNat : Int) = _
  rw [BitVec.toNat_or, t1, t2, show z * 2 = 2 ^ 1 * z by omega, ← h, IntKind.wrap_i64]
  omega
theorem bit_of_byte (bv r : Nat) (hb : bv ≤ 255) : bits BinOp.and IntKind.i64 (wrap64 ((bv : Int) / 2 ^ r)) 1 = ((bv / 2 ^ r % 2 : Nat) : Int) := by
  have h1 : (bv : Int) / 2 ^ r = ((bv / 2 ^ r : Nat) : Int) := by push_cast; rfl
  have h2 : bv / 2 ^ r ≤ bv := Nat.div_le_self _ _
  rw [h1]
  generalize bv / 2 ^ r = y at *
  rw [IntWalk.wrap64_in _ (by omega), and_one _ (by omega)]
/-- what next answers -/
def NxtPost (l : List Int) (b : List UInt8) (a : Nat) (w : World) (e : Ending) (w' : World) : Prop := e = .returned (.tuple #[.int .i64 (hf.nextOf l b a).1, .int .i64 ((hf.nextOf l b a).2.1 : Int), .int .i64 (hf.nextOf l b a).2.2]) ∧ Below w.heap.size w w'

set_option maxRecDepth 100000 in
set_option maxHeartbeats 4000000 in
theorem huff_next (l : List Int) (hft : hf.fits l) (b : List UInt8) (A : Option Addr) (c Mb n a : Nat) (w : World) (hb : SlRep Rep.u8 w (· < w.heap.size) b A c) (hm : MapV w Try.prog 64 Mb n (hf.symM l l.length)) (hbl : b.length ≤ 140737488351232) (ha : a ≤ 8 * b.length) :
    Calls Try.prog 27 #[.map (some Mb), .slice A b.length c, .int .i64 (a : Int)] w (NxtPost l b a w) := by
  have HB := Lib.hid hb
  have HM := Lib.hid hm
  have HF := Lib.hid hft
  have hMlt := hm.lt
  clear hb hm hft
  go_enter Try.func27, Try.ntmps27
  go_wp2
  go_loopw [2] (fun at_ wr => ∃ q : Nat, q ≤ 40 ∧ a + q ≤ 8 * b.length ∧ at_ = .int .i64 ((a : Int) + (q : Int)) ∧ Hid (BlkA wr w.heap.size 64 #[.int .i64 (q : Int), .int .i64 (hf.numAt b a q : Int)] ∧ Below w.heap.size w wr ∧ hf.NoHit l b a q)) (fun at_ _ => ((a : Int) + 41 - intOf at_).toNat)
  case atStart => exact ⟨0, by omega, by omega, by simp, Lib.hid ⟨BlkA.new _ _ _, (by repeat (first | (with_reducible exact Below.refl _ _) | (with_reducible assumption) | (with_reducible refine bset ?_ ?_ _) | (with_reducible refine balloc ?_ _) | (with_reducible refine Below.drew ?_) | (with_reducible refine bdrewN ?_ _) | (with_reducible refine bnext ?_ (by with_reducible assumption)) | exact Nat.le_refl _ | (simp; done) | omega | (simp; omega))), fun s hs h1 => by
    have := hf.fits_len HF.out hs
    unfold hf.lenN at h1
    omega⟩⟩
  case round =>
    obtain ⟨q, hq, haq, rfl, HJ⟩ := hrel
    rename World => wr
    obtain ⟨hK, hBw, hNo⟩ := HJ.out
    have k0 := hK.get 0
    have k1 := hK.get 1
    simp only [List.getElem?_toArray, List.getElem?_cons_succ, List.getElem?_cons_zero] at k0 k1
    have f0 := hK.frozen 0
    have f1 := hK.frozen 1
    have hnl := hf.numAt_lt b a q
    have hn39 : 2 ^ q ≤ 2 ^ 40 := Nat.pow_le_pow_right (by decide) hq
    by_cases h1 : q < 40 ∧ a + q < 8 * b.length
    · have h1a : (q : Int) < 40 := by omega
      have h1b : (a : Int) + (q : Int) < 8 * (b.length : Int) := by omega
      obtain ⟨p, hp⟩ : ∃ p : Nat, p = a + q := ⟨_, rfl⟩
      have HP := Lib.hid hp
      have ep : (a : Int) + (q : Int) = (p : Int) := by omega
      obtain ⟨q8, hq8⟩ : ∃ q8 : Nat, q8 = p / 8 := ⟨_, rfl⟩
      obtain ⟨r, hr⟩ : ∃ r : Nat, r = p % 8 := ⟨_, rfl⟩
      have HQ8 := Lib.hid hq8
      have HR := Lib.hid hr
      have e8 : (p : Int) / 8 = (q8 : Int) := by omega
      have er : (p : Int) % 8 = (r : Int) := by omega
      have hr8 : r < 8 := by omega
      have hq8l : q8 < b.length := by omega
      have hq8l2 : (q8 : Int) < (b.length : Int) := by omega
      obtain ⟨gb, ob, rfl, hgb, hcb⟩ := u8_cells (HB.out.below hBw) (by omega)
      obtain ⟨bv, hbv⟩ : ∃ bv : UInt8, b.getD q8 0 = bv := ⟨_, rfl⟩
      have hcb8 := hcb q8 hq8l
      rw [hbv] at hcb8
      have HBV := Lib.hid hbv
      clear hbv
      have hpb : p ≤ 1125899906842624 := by omega
      rw [ep]
      rw [ep] at h1b
      clear hp hq8 hr hcb
      obtain ⟨z, hz⟩ : ∃ z : Nat, hf.numAt b a q = z := ⟨_, rfl⟩
      rw [hz] at k1 hnl
      have HZ := Lib.hid hz
      have hzb : z ≤ 1099511627776 := by omega
      clear hz hnl hn39
      obtain ⟨z2, hz2⟩ : ∃ z2 : Nat, hf.numAt b a (q + 1) = z2 := ⟨_, rfl⟩
      have HZ2 := Lib.hid hz2
      have hz2b : z2 ≤ 2199023255553 := by
        rw [← hz2, hf.numAt_succ, HZ.out]
        have := hf.bitAt_le b (a + q)
        omega
      have HOB : Hid (bits BinOp.or IntKind.i64 ((z : Int) * 2) (bits BinOp.and IntKind.i64 (wrap64 ((bv.toNat : Int) / 2 ^ (7 - r))) 1) = (z2 : Int)) := Lib.hid (by
        have hlt := bv.toNat_lt
        rw [bit_of_byte _ _ (by omega), or_bit1 _ _ hzb (by omega), ← hz2, hf.numAt_succ, HZ.out]
        unfold hf.bitAt
        rw [← HP.out, ← HQ8.out, ← HR.out, HBV.out])
      have HK5 : Hid (BlkA ((wr.setCell ⟨w.heap.size, 1, none⟩ (.int .i64 (z2 : Int))).drew) w.heap.size 64 #[.int .i64 (q : Int), .int .i64 (z2 : Int)] ∧ Below w.heap.size w ((wr.setCell ⟨w.heap.size, 1, none⟩ (.int .i64 (z2 : Int))).drew)) := Lib.hid ⟨(hK.set 1 (.int .i64 (z2 : Int))).drew, (bset hBw (Nat.le_refl _) _).drew⟩
      clear hz2
      have hBW := Lib.hid hBw
      have hNO := Lib.hid hNo
      clear hK hBw hNo HJ
      go_wp2
      go_region
      rw [HOB.out]
      obtain ⟨w5, hw5⟩ : ∃ w5, w5 = ((wr.setCell ⟨w.heap.size, 1, none⟩ (.int .i64 (z2 : Int))).drew) := ⟨_, rfl⟩
      rw [← hw5] at HK5 ⊢
      clear hw5 k0 k1 f0 f1 hcb8
      have k0 := HK5.out.1.get 0
      have k1 := HK5.out.1.get 1
      simp only [List.getElem?_toArray, List.getElem?_cons_succ, List.getElem?_cons_zero] at k0 k1
      have f0 := HK5.out.1.frozen 0
      go_upto_region 6 with fail
      have eq1 : (q : Int) + 1 = ((q + 1 : Nat) : Int) := by omega
      have ep1 : (p : Int) + 1 = ((p + 1 : Nat) : Int) := by omega
      rw [eq1, ep1]
      obtain ⟨q1, hq1⟩ : ∃ q1 : Nat, q1 = q + 1 := ⟨_, rfl⟩
      rw [← hq1]
      obtain ⟨w6, hw6⟩ : ∃ w6, w6 = w5.setCell ⟨w.heap.size, 0, none⟩ (.int .i64 (q1 : Int)) := ⟨_, rfl⟩
      have HK6 : Hid (BlkA w6 w.heap.size 64 #[.int .i64 (q1 : Int), .int .i64 (z2 : Int)] ∧ Below w.heap.size w w6) := Lib.hid (by rw [hw6]; exact ⟨HK5.out.1.set 0 (.int .i64 (q1 : Int)), bset HK5.out.2 (Nat.le_refl _) _⟩)
      rw [← hw6]
      have HQ1 := Lib.hid hq1
      have hq1b : q1 ≤ 40 := by omega
      clear hw6 k0 k1 f0 hq1 eq1 ep1 HK5 HOB
      have k0 := HK6.out.1.get 0
      have k1 := HK6.out.1.get 1
      simp only [List.getElem?_toArray, List.getElem?_cons_succ, List.getElem?_cons_zero] at k0 k1
      have HM6 : Hid (MapV w6 Try.prog 64 Mb n (hf.symM l l.length)) := Lib.hid (HM.out.next HK6.out.2)
      obtain ⟨kl, hkl⟩ := hf.keyOf_val (n := (q1 : Int)) (c := (z2 : Int)) (by unfold IntOk; omega) (by unfold IntOk; omega)
      have HKL := Lib.hid hkl
      have hsm0 : hf.symM l l.length kl = hf.symF l l.length (hf.keyV q1 z2) := mapS_at hf.keyed _ hkl
      clear hkl
      by_cases hx : ∃ s : Nat, s < l.length ∧ 0 < l.getD s 0 ∧ hf.keyV q1 z2 = hf.keyV (l.getD s 0) (hf.codeOf l s)
      · obtain ⟨s, hs1, hs2, hs3⟩ := hx
        have HSM : Hid (hf.symM l l.length kl = some (.int .i64 (s : Int))) := Lib.hid (by rw [hsm0, hs3, hf.symF_at HF.out (Nat.le_refl _) hs1 hs2])
        have HHIT : Hid (hf.nextOf l b a = ((s : Int), q1, 0)) := Lib.hid (by
          obtain ⟨e1, e2⟩ := hf.keyV_inj.1 hs3
          have e3 : hf.lenN l s = q1 := by unfold hf.lenN; rw [hf.len_nat]; omega
          have h := hf.nextOf_hit (l := l) (b := b) (a := a) (s := (s : Int)) HF.out ⟨hf.mem_syms.2 ⟨s, hs1, hs2, rfl⟩, by rw [e3, HQ1.out]; omega, by rw [e3, HQ1.out, HZ2.out]; unfold hf.codeN; omega⟩
          rw [h, e3])
        clear hsm0 hs3 hs1 hs2
        go_wp2_with (at_lookup; refine wp_mlook_ok _ rfl _ _ _ rfl hf.keyed Try.underlying62 (hf.zeroIs _) rfl HM6.out (hf.keyV q1 z2) rfl HKL.out ?_; rw [HSM.out])
        go_quiet (fail)
        go_wp2
        go_ret3
        refine ⟨?_, bdrewN HK6.out.2 _⟩
        rw [HHIT.out]
        rfl
      · have HSM : Hid (hf.symM l l.length kl = none) := Lib.hid (by rw [hsm0]; exact hf.symF_none fun s h1 h2 h3 => hx ⟨s, h1, h2, h3⟩)
        have HN6 : Hid (hf.NoHit l b a q1) := Lib.hid (fun s hs hle => by
          by_cases hle2 : hf.lenN l s ≤ q
          · exact hNO.out s hs hle2
          · intro he
            obtain ⟨j, j1, j2, rfl⟩ := hf.mem_syms.1 hs
            have e3 : hf.lenN l (j : Int) = q1 := by have := HQ1.out; omega
            refine hx ⟨j, j1, j2, hf.keyV_inj.2 ⟨?_, ?_⟩⟩
            · unfold hf.lenN at e3; rw [hf.len_nat] at e3; omega
            · rw [e3, HQ1.out, HZ2.out] at he
              have h0 := (hf.codeOf_bd HF.out (j : Int)).1
              unfold hf.codeN at he
              omega)
        clear hx hsm0
        go_wp2_with (at_lookup; refine wp_mlook_ok _ rfl _ _ _ rfl hf.keyed Try.underlying62 (hf.zeroIs _) rfl HM6.out (hf.keyV q1 z2) rfl HKL.out ?_; rw [HSM.out])
        go_roundw
        case rel => exact ⟨q1, hq1b, by have := HQ1.out; have := HP.out; omega, by have := HQ1.out; have := HP.out; congr 1; omega, Lib.hid ⟨by have h := HZ2.out; rw [← HQ1.out] at h; rw [h]; exact HK6.out.1, HK6.out.2, HN6.out⟩⟩
        case measure => have := HQ1.out; have := HP.out; simp [intOf]; omega
    · obtain ⟨z, hz⟩ : ∃ z : Nat, hf.numAt b a q = z := ⟨_, rfl⟩
      rw [hz] at k1 hnl
      have HZ := Lib.hid hz
      have hzb : z ≤ 1099511627776 := by omega
      have HK6 : Hid (BlkA wr w.heap.size 64 #[.int .i64 (q : Int), .int .i64 (z : Int)] ∧ Below w.heap.size w wr) := Lib.hid ⟨by rw [← hz]; exact hK, hBw⟩
      have HNO := Lib.hid hNo
      have HM6 : Hid (MapV wr Try.prog 64 Mb n (hf.symM l l.length)) := Lib.hid (HM.out.next hBw)
      have HEND : Hid (q = 40 ∧ a + 40 ≤ 8 * b.length ∨ q = 8 * b.length - a) := Lib.hid (by omega)
      have HNH : Hid (∀ s, ¬ hf.Hit l b a s) := Lib.hid (fun s hs => by
        have h40 := hf.fits_len HF.out hs.1
        have hle : hf.lenN l s ≤ q := by
          have h2 := hs.2.1
          have h3 : hf.lenN l s ≤ 40 := by unfold hf.lenN; omega
          rcases HEND.out with e | e <;> omega
        exact hNo s hs.1 hle hs.2.2)
      have hc : (¬ (q : Int) < 40) ∨ ((q : Int) < 40 ∧ ¬ (a : Int) + (q : Int) < 8 * (b.length : Int)) := by omega
      clear hK hBw hNo HJ hz hnl hn39
      have HNX : Hid (∀ wx, Below w.heap.size w wx → (∃ s, hf.Begun l b a s) → NxtPost l b a w (.returned (.tuple #[.int .i64 0, .int .i64 0, .int .i64 5])) wx) := Lib.hid (fun wx h1 h2 => ⟨by rw [hf.nextOf_short HNH.out h2]; rfl, h1⟩)
      have HNZ : Hid (∀ wx, Below w.heap.size w wx → (∀ s, ¬ hf.Begun l b a s) → NxtPost l b a w (.returned (.tuple #[.int .i64 0, .int .i64 0, .int .i64 7])) wx) := Lib.hid (fun wx h1 h2 => ⟨by rw [hf.nextOf_none HNH.out h2]; rfl, h1⟩)
      have HBG : Hid (∀ s : Nat, s < l.length → 0 < l.getD s 0 → (hf.Begun l b a s ↔ q < hf.lenN l s ∧ hf.codeN l s / 2 ^ (hf.lenN l s - q) = z)) := Lib.hid (fun s h1 h2 => by
        have hs := hf.mem_syms.2 ⟨s, h1, h2, rfl⟩
        have h40 := hf.fits_len HF.out hs
        have h3 : hf.lenN l s ≤ 40 := by unfold hf.lenN; omega
        rcases HEND.out with ⟨e, e2⟩ | e
        · constructor
          · intro h; have := h.2.1; omega
          · intro h; omega
        · unfold hf.Begun hf.Same
          rw [← e, HZ.out]
          constructor
          · rintro ⟨_, h4, h5⟩; exact ⟨by omega, h5.symm⟩
          · rintro ⟨h4, h5⟩; exact ⟨hs, by omega, h5.symm⟩)
      have hMr : Mb < wr.heap.size := HM6.out.lt
      have hKr : w.heap.size < wr.heap.size := HK6.out.1.lt
      have hMK : Mb ≠ w.heap.size := by omega
      have HRGF : Hid (∀ wq left cnt, MapR wq Try.prog 64 Mb wr.heap.size n (hf.symM l l.length) left cnt → (∀ kl, WideAt.IsKeyLit kl → hf.symM l l.length kl ≠ none → left kl = true) → wr.grownBy wq none → wq.heap.size = wr.heap.size + 1 → Hid (MapR wq Try.prog 64 Mb wr.heap.size n (hf.symM l l.length) left cnt ∧ BlkA wq w.heap.size 64 #[.int .i64 (q : Int), .int .i64 (z : Int)] ∧ Below w.heap.size w wq ∧ wr.heap.size < wq.heap.size ∧ ∀ s : Nat, s < l.length → 0 < l.getD s 0 → ¬ hf.Begun l b a s ∨ ∀ kl, keyOf Try.prog 64 (hf.keyV (l.getD s 0) (hf.codeOf l s)) = some kl → left kl = true)) := Lib.hid (fun wq left cnt hrg hleft hg hsz => Lib.hid ⟨hrg, HK6.out.1.kept hg (by simp), HK6.out.2.grown hg HK6.out.2.size (by simp), by omega, fun s h1 h2 => .inr fun kl hk => hleft kl (hf.keyed.key hk) (by unfold hf.symM; rw [mapS_at hf.keyed _ hk, hf.symF_at HF.out (Nat.le_refl _) h1 h2]; simp)⟩)
      rcases hc with hc | ⟨hc1, hc2⟩
      all_goals
        go_wp2_with (at_range; refine wp_mrange _ rfl _ _ rfl _ hf.keyed Try.underlying62 rfl HM6.out ?_; intro wq0 left0 cnt0 hrg hleft hg hsz; have HRG := HRGF.out wq0 left0 cnt0 hrg hleft hg hsz; clear hrg hleft hg hsz)
        try go_frame
        go_loopw [12] (fun _ wq => ∃ left cnt, Hid (MapR wq Try.prog 64 Mb wr.heap.size n (hf.symM l l.length) left cnt ∧ BlkA wq w.heap.size 64 #[.int .i64 (q : Int), .int .i64 (z : Int)] ∧ Below w.heap.size w wq ∧ wr.heap.size < wq.heap.size ∧ ∀ s : Nat, s < l.length → 0 < l.getD s 0 → ¬ hf.Begun l b a s ∨ ∀ kl, keyOf Try.prog 64 (hf.keyV (l.getD s 0) (hf.codeOf l s)) = some kl → left kl = true)) (fun _ wq => wq.rangeLeft Mb wr.heap.size)
        case atStart => exact ⟨_, _, HRG⟩
        case round =>
          obtain ⟨left, cnt, HRX⟩ := hrel
          rename World => wq
          go_wp2_with (at_next; refine wp_mnext _ rfl _ rfl hf.keyed (fun p : Int × Int => hf.keyV p.1 p.2) (fun x : Int => Value.int .i64 x) (fun key kl u hk hu => ?_) (fun kl u hu => ?_) rfl HRX.out.1 ?_ ?_)
          · obtain ⟨v, hv, hf2⟩ := mapS_some hu
            obtain ⟨t, _, _, ht, _⟩ := hf.symF_some hf2
            exact ⟨(l.getD t 0, hf.codeOf l t), (hf.keyed.inj hk hv).trans ht⟩
          · obtain ⟨v, hv, hf2⟩ := mapS_some hu
            obtain ⟨t, _, _, _, ht⟩ := hf.symF_some hf2
            exact ⟨t, ht⟩
          · intro hl0
            have HE := Lib.hid (HNZ.out wq HRX.out.2.2.1 (fun s hs => by
              obtain ⟨j, j1, j2, rfl⟩ := hf.mem_syms.1 hs.1
              rcases HRX.out.2.2.2.2 j j1 j2 with h | h
              · exact h hs
              · obtain ⟨kl, hkl⟩ := hf.keyOf_val (n := l.getD j 0) (c := hf.codeOf l j) (by have := hf.fits_len HF.out hs.1; rw [hf.len_nat] at this; unfold IntOk; omega) (by have := hf.codeOf_bd HF.out (j : Int); unfold IntOk; omega)
                have h2 := h kl hkl
                rw [hl0 kl] at h2
                cases h2))
            clear HRX
            go_wp2
            go_ret3
            exact HE.out
          · intro x1 x2 cc kl w1 cnt1 hkey hlk hmk hrg1 hlt hg1 hs1 hen
            obtain ⟨s, s1, s2, s3, s4⟩ := hf.symF_some ((mapS_at hf.keyed _ hkey).symm.trans hmk)
            obtain ⟨e1, e2⟩ := hf.keyV_inj.1 s3
            have hs := hf.mem_syms.2 ⟨s, s1, s2, rfl⟩
            have h40 := hf.fits_len HF.out hs
            rw [hf.len_nat] at h40
            obtain ⟨nn, hnn⟩ : ∃ nn : Nat, x1 = nn := ⟨x1.toNat, by omega⟩
            obtain ⟨cd, hcd⟩ : ∃ cd : Nat, x2 = cd := ⟨x2.toNat, by have := hf.codeOf_bd HF.out (s : Int); omega⟩
            subst hnn hcd
            have hn40 : nn ≤ 40 := by omega
            have hcb : cd ≤ 1099511627776 := by have := hf.codeOf_bd HF.out (s : Int); omega
            have hlN : hf.lenN l (s : Int) = nn := by unfold hf.lenN; rw [hf.len_nat]; omega
            have hcN : hf.codeN l (s : Int) = cd := by unfold hf.codeN; omega
            have HIF : Hid (hf.Begun l b a (s : Int) ↔ q < nn ∧ cd / 2 ^ (nn - q) = z) := Lib.hid (by rw [← hlN, ← hcN]; exact HBG.out s s1 s2)
            have hK1 := HRX.out.2.1.kept hg1 (by simp; omega)
            have hB1 : Below w.heap.size w w1 := HRX.out.2.2.1.grown hg1 HRX.out.2.2.1.size (fun j hj => by cases hj; omega)
            have HNXT : Hid (¬ hf.Begun l b a (s : Int) → ∀ w2, Below w1.heap.size w1 w2 → Hid (MapR w2 Try.prog 64 Mb wr.heap.size n (hf.symM l l.length) (fun z => left z && !z.sameKey kl) cnt1 ∧ BlkA w2 w.heap.size 64 #[.int .i64 (q : Int), .int .i64 (z : Int)] ∧ Below w.heap.size w w2 ∧ wr.heap.size < w2.heap.size ∧ ∀ s : Nat, s < l.length → 0 < l.getD s 0 → ¬ hf.Begun l b a s ∨ ∀ kl', keyOf Try.prog 64 (hf.keyV (l.getD s 0) (hf.codeOf l s)) = some kl' → (fun z => left z && !z.sameKey kl) kl' = true)) := Lib.hid (fun hnb w2 hb2 => Lib.hid ⟨hrg1.next hb2, hK1.next hb2, hB1.trans (hb2.mono hB1.size), by have := hrg1.lt.2; have := hb2.size; omega, fun t t1 t2 => by
              rcases HRX.out.2.2.2.2 t t1 t2 with h | h
              · exact .inl h
              · by_cases hts : t = s
                · subst hts; exact .inl hnb
                · refine .inr fun kl' hk' => ?_
                  have hne : kl' ≠ kl := fun e => by
                    subst e
                    exact hts (hf.key_one HF.out t1 s1 t2 s2 ((hf.keyed.inj hk' hkey).trans s3))
                  show (left kl' && !kl'.sameKey kl) = true
                  rw [h kl' hk', sameKey_ne hne]
                  rfl⟩)
            have HB1 := Lib.hid hB1
            have HLE : Hid (wq.rangeLeft Mb wr.heap.size = cnt ∧ cnt1 < cnt) := Lib.hid ⟨HRX.out.1.left_eq, hlt⟩
            have j0 := hK1.get 0
            have j1 := hK1.get 1
            simp only [List.getElem?_toArray, List.getElem?_cons_succ, List.getElem?_cons_zero] at j0 j1
            have hKw : w.heap.size < w1.heap.size := hK1.lt
            have hwd : (nn : Int) - (q : Int) = (nn : Int) - (q : Int) := rfl
            unfold hf.keyV at hen ⊢
            clear hs1 hkey hlk hmk hrg1 hg1 hK1 hB1 s3 s4 e1 e2 hs h40 hlN hcN hlt HRX k0 k1 f0 f1 hwd
            by_cases c1 : q < nn
            · try (exfalso; omega)
              all_goals
                have c1' : (q : Int) < (nn : Int) := by omega
                obtain ⟨y, hy⟩ : ∃ y : Nat, cd / 2 ^ (nn - q) = y := ⟨_, rfl⟩
                have hyi : (cd : Int) / 2 ^ (nn - q) = (y : Int) := by rw [← hy]; push_cast; rfl
                have hyb : y ≤ cd := by rw [← hy]; exact Nat.div_le_self _ _
                have HY := Lib.hid hy
                clear hy
                by_cases c2 : y = z
                · have HE := Lib.hid (fun w2 (h : Below w.heap.size w w2) => HNX.out w2 h ⟨(s : Int), HIF.out.2 ⟨c1, by rw [HY.out, c2]⟩⟩)
                  subst c2
                  go_wp2
                  go_quiet (fail)
                  go_wp2
                  go_ret3
                  exact HE.out _ (by first | exact bdrewN (balloc (HB1.out) _) _ | exact balloc HB1.out _)
                · have HN2 := Lib.hid (HNXT.out (fun h => c2 (by rw [← HY.out]; exact (HIF.out.1 h).2)))
                  have c2' : ((y : Int) == (z : Int)) = false := by simp; omega
                  go_wp2
                  go_quiet (fail)
                  go_wp2
                  refine ⟨⟨_, cnt1, HN2.out _ (by exact bdrewN (balloc (bself w1) _) _)⟩, ?_⟩
                  rw [(HN2.out _ (bdrewN (balloc (bself w1) _) _)).out.1.left_eq, HLE.out.1]
                  exact HLE.out.2
            · have HN2 := Lib.hid (HNXT.out (fun h => c1 (HIF.out.1 h).1))
              have c1' : ¬ (q : Int) < (nn : Int) := by omega
              go_wp2
              go_quiet (fail)
              go_wp2
              refine ⟨⟨_, cnt1, HN2.out _ (by exact bdrewN (balloc (bself w1) _) _)⟩, ?_⟩
              rw [(HN2.out _ (bdrewN (balloc (bself w1) _) _)).out.1.left_eq, HLE.out.1]
              exact HLE.out.2
end Go.Proofs.Ytkbmpppendelcaa
