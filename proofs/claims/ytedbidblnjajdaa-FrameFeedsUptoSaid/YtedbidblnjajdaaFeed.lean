/- Package frame: Get, Feed. No condition. -/
import Derived.Test.YtedbidblnjajdaaFeedP
import Derived.Test.YtedbidblnjajdaaLists
namespace Go.Proofs.Ytedbidblnjajdaa
open Go.RowKit

theorem elemLst : ElemT Try.prog 45 23 1 24 := ElemT.of Try.underlying45 (z := .slice none 0 0) (by kernel_rfl) rfl (by decide)

theorem bits_or_byte (m x : Nat) (hm : m ≤ 16777216) (hx : x ≤ 255) : bits .or .i64 ((m : Int) * 256) (x : Int) = ((m * 256 + x : Nat) : Int) := by
  have t1 : (BitVec.ofInt 64 ((m : Int) * 256)).toNat = m * 256 := by
    rw [show ((m : Int) * 256) = ((m * 256 : Nat) : Int) by omega, BitVec.ofInt_natCast, BitVec.toNat_ofNat]; exact Nat.mod_eq_of_lt (by omega)
  have t2 : (BitVec.ofInt 64 (x : Int)).toNat = x := by
    rw [BitVec.ofInt_natCast, BitVec.toNat_ofNat]; exact Nat.mod_eq_of_lt (by omega)
  have h := Nat.two_pow_add_eq_or_of_lt (i := 8) (b := x) (by omega) m
  show IntKind.i64.wrap ((BitVec.ofInt 64 ((m : Int) * 256) ||| BitVec.ofInt 64 (x : Int)).toNat : Int) = _
  rw [BitVec.toNat_or, t1, t2, show m * 256 = 2 ^ 8 * m by omega, ← h, IntKind.wrap_i64]
  omega

set_option maxHeartbeats 400000 in
theorem frame_Get (l : List UInt8) (A : Option Addr) (c : Nat) (w : World) {S : Nat → Prop} (hl : SlRep Rep.u8 w S l A c) (hn : l.length ≤ 4) :
    Calls Try.prog 56 #[.slice A l.length c] w fun e w' => e = .returned (.int .i64 (feed.be l)) ∧ w = w' := by
  have HL := Lib.hid hl
  clear hl
  go_enter Try.func56, Try.ntmps56
  go_wp2
  go_loop [3, 8] (fun n i => ∃ k : Nat, k ≤ l.length ∧ i = .int .i64 k ∧ n = .int .i64 (feed.be (l.take k))) (fun _ i => l.length - (intOf i).toNat)
  case atStart => exact ⟨0, Nat.zero_le _, rfl, rfl⟩
  case round =>
    obtain ⟨k, hk, rfl, rfl⟩ := hrel
    by_cases hlt : k < l.length
    · obtain ⟨b, o, rfl, _, hc⟩ := u8_at HL.out hlt
      have HS := Lib.hid (feed.be_take_succ l k hlt)
      have hb1 := feed.be_lt l k
      have hb2 : (256 : Nat) ^ k ≤ 256 ^ 3 := Nat.pow_le_pow_right (by omega) (by omega)
      have hb : (feed.be (l.take k) : Int) ≤ 16777216 := by omega
      have hx : ((l.getD k 0).toNat : Int) ≤ 255 := by have := (l.getD k 0).toNat_lt; omega
      clear hb1 hb2
      generalize feed.be (l.take k) = m at *
      generalize (l.getD k 0).toNat = x at *
      go_wp2
      go_round
      case rel => exact ⟨k + 1, by omega, by go_num, by rw [HS.out, bits_or_byte m x (by omega) (by omega)]⟩
      case measure => simp [intOf]; omega
    · obtain rfl : k = l.length := by omega
      go_wp2
      go_ret
      exact ⟨rfl, rfl⟩

theorem frame_Get4 (l : List UInt8) (A : Option Addr) (c : Nat) (w : World) {S : Nat → Prop} (hl : SlRep Rep.u8 w S l A c) (hn : 4 ≤ l.length) :
    Calls Try.prog 56 #[.slice A 4 c] w fun e w' => e = .returned (.int .i64 (feed.be (l.take 4))) ∧ w = w' := by
  have h := frame_Get (l.take 4) A c w (hl.take 4) (by simp; omega)
  rwa [show (l.take 4).length = 4 by simp; omega] at h

def feedL : Except Int feed.St → List (List UInt8)
  | .ok s => s.1
  | .error _ => []
def feedR : Except Int feed.St → List UInt8
  | .ok s => s.2
  | .error _ => []
def FeedRes (r : Except Int feed.St) (w : World) (e : Ending) (w' : World) : Prop :=
  ∃ A c A2 c2, e = .returned (.tuple #[.slice A (feedL r).length c, .slice A2 (feedR r).length c2, .int .i64 (exC r)]) ∧ SlRep (Rep.slice Rep.u8) w' (fun k => w.heap.size ≤ k ∧ k < w'.heap.size) (feedL r) A c ∧
    SlRep Rep.u8 w' (fun k => w.heap.size ≤ k ∧ k < w'.heap.size) (feedR r) A2 c2 ∧ Below w.heap.size w w'
theorem FeedRes.no {r : Except Int feed.St} {c : Int} (h : r = .error c) {w w' : World} (hb : Below w.heap.size w w') : FeedRes r w (.returned (.tuple #[.slice none 0 0, .slice none 0 0, .int .i64 c])) w' := by
  subst h
  exact ⟨none, 0, none, 0, rfl, ⟨by simp [feedL], by simp, .inl rfl⟩, ⟨by simp [feedR], by simp, .inl rfl⟩, hb⟩
theorem FeedRes.yes {r : Except Int feed.St} {L : List (List UInt8)} {l : List UInt8} (h : r = .ok (L, l)) {w w' : World} {A A2 : Option Addr} {n c n2 c2 : Nat} (hn : n = L.length) (hn2 : n2 = l.length) (h1 : SlRep (Rep.slice Rep.u8) w' (fun k => w.heap.size ≤ k ∧ k < w'.heap.size) L A c) (h2 : SlRep Rep.u8 w' (fun k => w.heap.size ≤ k ∧ k < w'.heap.size) l A2 c2) (hb : Below w.heap.size w w') :
    FeedRes r w (.returned (.tuple #[.slice A n c, .slice A2 n2 c2, .int .i64 0])) w' := by
  subst h; subst hn; subst hn2
  exact ⟨A, c, A2, c2, rfl, h1, h2, hb⟩

set_option maxRecDepth 100000 in
set_option maxHeartbeats 2000000 in
theorem frame_Feed_ok (held b : List UInt8) (A0 A1 : Option Addr) (c0 c1 : Nat) (w : World) (h0 : SlRep Rep.u8 w (· < w.heap.size) held A0 c0) (h1 : SlRep Rep.u8 w (· < w.heap.size) b A1 c1) (hn : held.length + b.length ≤ 1048576) (hs : held.length ≤ 1027) :
    Calls Try.prog 28 #[.slice A0 held.length c0, .slice A1 b.length c1] w (FeedRes (playTo feed.step ([], []) (held ++ b)) w) := by
  have H0 := Lib.hid h0
  have H1 := Lib.hid h1
  clear h0 h1
  have hb3 : Below w.heap.size w (w.alloc (.cells #[.slice A0 held.length c0, .slice A1 b.length c1] 23)) := balloc (bself w) _
  have HC := Lib.hid (concat2_u8 held b A0 A1 c0 c1 w.heap.size (w.alloc (.cells #[.slice A0 held.length c0, .slice A1 b.length c1] 23)) (by simp) (by simp [go_sem]) (by simp [go_sem]) (H0.out.next hb3) (H1.out.next hb3) (by omega))
  go_enter Try.func28, Try.ntmps28
  go_wp2_with (go_at_call 55; refine HC.out.mono ?_; rintro e w1 ⟨A', c', rfl, ho, hb1⟩; have HO := Lib.hid ho; clear ho)
  have hall : (held ++ b).length ≤ 1048576 := by rw [List.length_append]; omega
  have HLEN : Hid ((held ++ b).length = held.length + b.length) := Lib.hid (by simp)
  clear HC H0 H1
  generalize held ++ b = all at *
  have hb1' : Below w.heap.size w w1 := bnext hb3 hb1
  have hs1 : w.heap.size + 1 ≤ w1.heap.size := by have := hb1.size; simpa using this
  have HU := Lib.hid (HO.out.u8.2)
  go_loopw [7, 8, 9, 10] (fun al out _ _ wr => ∃ (l : List UInt8) (L : List (List UInt8)) (Aa Ao : Option Addr) (ca co : Nat) (xs : List Value), al = .slice Aa l.length ca ∧ out = .slice Ao L.length co ∧ l.length + L.length * 4 ≤ 1048576 ∧ Hid (playTo feed.step (L, []) l = playTo feed.step ([], []) all) ∧ Hid (SlRep Rep.u8 wr (Apart wr w.heap.size Ao) l Aa ca) ∧ Hid (Own wr w.heap.size 23 1 Ao L.length co xs ∧ RowsAt wr w.heap.size Ao L xs) ∧ Below w.heap.size w wr) (fun al _ _ _ _ => match al with | .slice _ n _ => n | _ => 0)
  case atStart => exact ⟨all, [], A', none, c', 0, [], by rw [HLEN.out], rfl, by simp; omega, Lib.hid rfl, Lib.hid (HU.out.keep fun k hk => ⟨⟨by have := hk.1; simp at this; omega, hk.2, by simp [blkOf]⟩, rfl⟩), Lib.hid ⟨Own.nil _ _ _ _, RowsAt.nil _ _ _⟩, hb1'⟩
  case round =>
    obtain ⟨l, L, Aa, Ao, ca, co, xs, rfl, rfl, hLl, HP, HA, HO2, hB⟩ := hrel
    rename World => wr
    have hszr := hB.size
    have hcap := HA.out.1
    clear HO HU
    by_cases hl4 : l.length < 4
    · have hl4' : (l.length : Int) < 4 := by omega
      have HR : Hid (playTo feed.step ([], []) all = .ok (L, l)) := Lib.hid (by rw [← HP.out]; exact feed.short L l hl4)
      clear HP
      go_wp2_with (go_at_call 47; refine (clone_u8 l.length Aa ca (l.map u8v) _ (by simp) (fun w' hb => (HA.out.apart_next hb).cells_u8) (oneCell_u8 l) (by omega)).mono ?_; rintro e w2 ⟨A2, c2, rfl, ho2, hb2⟩; have HO3 := Lib.hid ho2; clear ho2)
      go_ret3
      exact FeedRes.yes HR.out rfl rfl ((HO2.out.2.next hb2).rep (HO2.out.1.next hb2)).2 (HO3.out.u8.2.keep fun k hk => ⟨⟨by omega, hk.2⟩, rfl⟩) (bnext hB hb2)
    · have hl4' : 4 ≤ l.length := by omega
      have hl4i : (4 : Int) ≤ (l.length : Int) := by omega
      have HG := Lib.hid (frame_Get4 l Aa ca wr HA.out hl4')
      have hc4 := fun W => run_cut_h (P := Try.prog) elemU8 Aa l.length ca 4 (by omega) 4 rfl W
      have HLo := Lib.hid (feed.long L l hl4')
      have HPa := Lib.hid (feed.part L l hl4')
      have HFu := Lib.hid (feed.full L l hl4')
      obtain ⟨n, hn0⟩ : ∃ n, n = feed.be (l.take 4) := ⟨_, rfl⟩
      rw [← hn0] at HG HLo HPa HFu
      clear hn0
      by_cases hn1 : 1024 < n
      · have HR : Hid (playTo feed.step ([], []) all = .error 1) := Lib.hid (by rw [← HP.out]; exact HLo.out hn1)
        clear HP HLo HPa HFu
        go_wp2_with (go_at_call 56; refine HG.out.mono ?_; rintro e w2 ⟨rfl, rfl⟩)
        go_ret3
        exact FeedRes.no HR.out hB
      · have hn2 : n ≤ 1024 := by omega
        by_cases hfull : l.length < 4 + n
        · have hf' : (l.length : Int) < 4 + (n : Int) := by omega
          have HR : Hid (playTo feed.step ([], []) all = .ok (L, l)) := Lib.hid (by rw [← HP.out]; exact HPa.out hn2 hfull)
          clear HP HLo HPa HFu
          go_wp2_with (first
            | (go_at_call 56; refine HG.out.mono ?_; rintro e w2 ⟨rfl, rfl⟩)
            | (go_at_call 47; refine (clone_u8 l.length Aa ca (l.map u8v) _ (by simp) (fun w' hb => (HA.out.apart_next hb).cells_u8) (oneCell_u8 l) (by omega)).mono ?_; rintro e w2 ⟨A2, c2, rfl, ho2, hb2⟩; have HO3 := Lib.hid ho2; clear ho2))
          go_ret3
          exact FeedRes.yes HR.out rfl rfl ((HO2.out.2.next hb2).rep (HO2.out.1.next hb2)).2 (HO3.out.u8.2.keep fun k hk => ⟨⟨by omega, hk.2⟩, rfl⟩) (bnext hB hb2)
        · have hf2 : 4 + n ≤ l.length := by omega
          have hf' : 4 + (n : Int) ≤ (l.length : Int) := by omega
          have hcl := fun W => run_cut_lh (P := Try.prog) elemU8 Aa l.length ca 4 n (by omega) 4 (4 + (n : Int)) rfl rfl W
          have hcr := fun W => run_cut_l (P := Try.prog) elemU8 Aa l.length ca (4 + n) hf2 (4 + (n : Int)) (by omega) W
          have HR : Hid (playTo feed.step (L ++ [(l.drop 4).take n], []) (l.drop (4 + n)) = playTo feed.step ([], []) all) := Lib.hid (by rw [← HP.out]; exact (HFu.out hn2 hf2).symm)
          have HF1 : Hid (SlRep Rep.u8 wr (Apart wr w.heap.size Ao) ((l.drop 4).take n) (cutA Aa ca 4 1) (ca - 4)) := Lib.hid (HA.out.cut (f := 4) (n := n) hf2)
          have HF2 : Hid (SlRep Rep.u8 wr (Apart wr w.heap.size Ao) (l.drop (4 + n)) (cutA Aa ca (4 + n) 1) (ca - (4 + n))) := Lib.hid (HA.out.drop hf2)
          have HN1 : Hid (((l.drop 4).take n).length = n) := Lib.hid (by simp; omega)
          have HN2 : Hid ((l.drop (4 + n)).length = l.length - (4 + n)) := Lib.hid (by simp)
          clear HP HLo HPa HFu
          generalize (l.drop 4).take n = fr at *
          generalize l.drop (4 + n) = rest at *
          go_wp2_with (first
            | (go_at_call 56; refine HG.out.mono ?_; rintro e w2 ⟨rfl, rfl⟩)
            | (go_at_call 47; refine (clone_u8 n (cutA Aa ca 4 1) (ca - 4) (fr.map u8v) _ (by rw [List.length_map, HN1.out]) (fun w' hb => (HF1.out.apart_next hb).cells_u8) (oneCell_u8 fr) (by omega)).mono ?_; rintro e w2 ⟨A2, c2, rfl, ho2, hb2⟩; have HO3 := Lib.hid ho2; clear ho2; have hs2 := hb2.size)
            | (at_builtin; refine wp_app _ rfl _ _ _ rfl elemLst w.heap.size Ao _ co _ rfl ((HO2.out.1.next hb2).alloc _) _ 1 1 [_] rfl rfl (Cells.newAt _ _ _ rfl) (by simp [Value.oneCell']) (by omega) (by unfold maxLen; omega) (by simp; omega) ?_; intro A3 c3 w3 hO3 hg3; have HO4 := Lib.hid hO3; clear hO3))
          have hb4 := balloc (bself w2) (.cells #[.slice A2 n c2] 23)
          have HX : Hid (SlRep Rep.u8 w3 (Apart w3 w.heap.size A3) rest (cutA Aa ca (4 + n) 1) (ca - (4 + n))) := Lib.hid (((HF2.out.apart_next hb2).apart_next hb4).grew hg3)
          have HY : Hid (RowsAt w3 w.heap.size A3 (L ++ [fr]) (xs ++ [.slice A2 n c2])) := Lib.hid (RowsAt.grew (RowsAt.snoc ((HO2.out.2.next hb2).next hb4) HO3.out.u8.1 ((HO3.out.u8.2.to_apart hszr (fun k hk => (HO2.out.1.lt k hk).2)).apart_next hb4)) hg3)
          refine ⟨⟨rest, L ++ [fr], cutA Aa ca (4 + n) 1, A3, ca - (4 + n), c3, xs ++ [.slice A2 n c2], by rw [HN2.out], by simp, by rw [HN2.out]; simp; omega, HR, HX, Lib.hid ⟨by rw [List.length_append]; exact HO4.out, HY.out⟩, Grew.step (bnext (bnext hB hb2) hb4) hg3 (fun k hk => (HO2.out.1.lt k hk).1)⟩, by show l.length - (4 + n) < l.length; omega⟩
end Go.Proofs.Ytedbidblnjajdaa
