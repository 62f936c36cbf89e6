/- Package ref: MsgAsk. No condition. -/
import Derived.Test.YtcpbgiikfabaaaaMsg10
import Derived.Test.YtcpbgiikfabaaaaMsg9
import Derived.Lib.OthersKept
namespace Go.Proofs.Ytcpbgiikfabaaaa
open Go.RowKit

theorem mg.hs_parts {k : Int} (hk : ¬ (k < 1 ∨ 10 < k)) (s : mg.Sel) (hs : s ≠ .kind ∧ s ≠ .mark) : mg.hs ((mg.parts k).map mg.letter) ((mg.letter s).toNat : Int) = (mg.parts k).contains s := by
  rcases mg.kinds hk with rfl | rfl | rfl | rfl | rfl | rfl | rfl | rfl | rfl | rfl <;> cases s <;> first | (exact absurd rfl hs.1) | (exact absurd rfl hs.2) | decide
theorem mg.four_fit (n : Int) : (!mg.four n) = decide ((if n < 0 ∨ 256 ^ 4 ≤ n then (2 : Int) else 0) = 2) := by
  unfold mg.four
  by_cases h : n < 0 ∨ 256 ^ 4 ≤ n
  · rw [if_pos h]; simp; omega
  · rw [if_neg h]; simp; omega
theorem mg.flt_eq (r : Request) (hk : ¬ (r.kind < 1 ∨ 10 < r.kind)) (a b c : Bool) (ha : a = !mg.refBare r) (hb : b = mg.refRange r) (hc : c = mg.refSize r) : mg.flt a b c = mg.refFault r := by
  subst ha; subst hb; subst hc
  unfold mg.flt mg.refFault
  rw [if_neg hk]
  cases mg.refBare r <;> cases mg.refRange r <;> cases mg.refSize r <;> rfl

theorem mg.dec_four (r : Request) (s : mg.Sel) (hs : s.srt = .num) (hw : s.wide = 4) : decide (mg.fit r s = 2) = !mg.four (mg.num r s) := by
  unfold mg.fit mg.four
  rw [hs, hw]
  dsimp only
  by_cases h : mg.num r s < 0 ∨ 256 ^ 4 ≤ mg.num r s
  · rw [if_pos h]; simp; omega
  · rw [if_neg h]; simp; omega
theorem mg.dec_how (r : Request) : decide (mg.fit r .how = 2) = (decide (r.how < 0) || decide (255 < r.how)) := by
  have e : mg.fit r .how = if r.how < 0 ∨ 256 ^ 1 ≤ r.how then 2 else 0 := rfl
  rw [e]
  by_cases h : r.how < 0 ∨ 256 ^ 1 ≤ r.how
  · rw [if_pos h]; simp; omega
  · rw [if_neg h]; simp; omega
theorem mg.dec_count (r : Request) : decide (mg.fit r .count = 2) = (decide (r.count < 0) || decide (65535 < r.count)) := by
  have e : mg.fit r .count = if r.count < 0 ∨ 256 ^ 2 ≤ r.count then 2 else 0 := rfl
  rw [e]
  by_cases h : r.count < 0 ∨ 256 ^ 2 ≤ r.count
  · rw [if_pos h]; simp; omega
  · rw [if_neg h]; simp; omega
theorem mg.dec_size (r : Request) (s : mg.Sel) (m : Nat) (hs : mg.fit r s = if m < (mg.txt r s).length then 1 else 0) : decide (mg.fit r s = 1) = decide (m < (mg.txt r s).length) := by
  rw [hs]
  by_cases h : m < (mg.txt r s).length <;> simp [h]

set_option maxHeartbeats 2000000 in
theorem ref_askFault (r : Request) (A : Option Addr) (c : Nat) (w : World) :
    Calls Try.prog 23 #[.agg (mg.vals r A c).toArray] w fun e w' => e = .returned (.int .i64 (mg.refFault r)) ∧ Below w.heap.size w w' := by
  by_cases hk : r.kind < 1 ∨ 10 < r.kind
  · have HE : Hid (mg.refFault r = 3) := Lib.hid (by unfold mg.refFault; rw [if_pos hk])
    rw [HE.out]
    unfold mg.vals
    by_cases h1 : r.kind < 1
    · clear hk
      go_enter Try.func23, Try.ntmps23
      go_wp2
      go_ret
      exact ⟨rfl, (by repeat (first | (with_reducible exact Below.refl _ _) | (with_reducible assumption) | (with_reducible refine bset ?_ ?_ _) | (with_reducible refine balloc ?_ _) | (with_reducible refine Below.drew ?_) | (with_reducible refine bdrewN ?_ _) | (with_reducible refine bnext ?_ (by with_reducible assumption)) | exact Nat.le_refl _ | (simp; done) | omega | (simp; omega)))⟩
    · have h2 : 10 < r.kind := by omega
      clear hk
      go_enter Try.func23, Try.ntmps23
      go_wp2
      go_ret
      exact ⟨rfl, (by repeat (first | (with_reducible exact Below.refl _ _) | (with_reducible assumption) | (with_reducible refine bset ?_ ?_ _) | (with_reducible refine balloc ?_ _) | (with_reducible refine Below.drew ?_) | (with_reducible refine bdrewN ?_ _) | (with_reducible refine bnext ?_ (by with_reducible assumption)) | exact Nat.le_refl _ | (simp; done) | omega | (simp; omega)))⟩
  · obtain ⟨k, m, p, t, ho, hn, at_, cnt, d⟩ := r
    have hll : ((mg.parts k).map mg.letter).length ≤ 100 := by have := mg.parts_len k; rw [List.length_map]; omega
    have h := ref_askFault_in k m ho hn at_ cnt p t d A c w hk ((mg.parts k).map mg.letter) (mg.hs ((mg.parts k).map mg.letter)) (mg.four m) (mg.four hn) (mg.four at_)
      (Lib.hid (fun w => ref_msgNames k hk w)) (Lib.hid (fun x w => ref_has_int _ x w hll)) (Lib.hid (ref_four m)) (Lib.hid (ref_four hn)) (Lib.hid (ref_four at_))
      _ (Lib.hid rfl) _ (Lib.hid rfl) _ (Lib.hid rfl) _ (Lib.hid rfl) _ (Lib.hid rfl) _ (Lib.hid rfl) _ (Lib.hid rfl) _ (Lib.hid rfl) _ (Lib.hid rfl) _ (Lib.hid rfl) _ (Lib.hid rfl) _ (Lib.hid rfl) _ (Lib.hid rfl) _ (Lib.hid rfl) _ (Lib.hid rfl) _ (Lib.hid rfl) _ (Lib.hid rfl)
    rw [mg.flt_eq ⟨k, m, p, t, ho, hn, at_, cnt, d⟩ hk] at h
    · exact h
    · have e := fun s hs => mg.hs_parts hk s hs
      have e1 := e .path (by decide)
      have e2 := e .to (by decide)
      have e3 := e .how (by decide)
      have e4 := e .handle (by decide)
      have e5 := e .at_ (by decide)
      have e6 := e .count (by decide)
      have e7 := e .data (by decide)
      simp only [mg.letter] at e1 e2 e3 e4 e5 e6 e7
      have f1 : ((112 : UInt8).toNat : Int) = 112 := rfl
      have f2 : ((116 : UInt8).toNat : Int) = 116 := rfl
      have f3 : ((104 : UInt8).toNat : Int) = 104 := rfl
      have f4 : ((110 : UInt8).toNat : Int) = 110 := rfl
      have f5 : ((97 : UInt8).toNat : Int) = 97 := rfl
      have f6 : ((99 : UInt8).toNat : Int) = 99 := rfl
      have f7 : ((100 : UInt8).toNat : Int) = 100 := rfl
      rw [f1] at e1; rw [f2] at e2; rw [f3] at e3; rw [f4] at e4; rw [f5] at e5; rw [f6] at e6; rw [f7] at e7
      rw [e1, e2, e3, e4, e5, e6, e7]
      simp only [mg.refBare, mg.blank, mg.Sel.srt, mg.num, mg.txt, List.all_cons, List.all_nil, ByteArray.toList_eq]
      generalize (mg.parts k).contains mg.Sel.path = b1, (mg.parts k).contains mg.Sel.to = b2, (mg.parts k).contains mg.Sel.how = b3, (mg.parts k).contains mg.Sel.handle = b4, (mg.parts k).contains mg.Sel.at_ = b5, (mg.parts k).contains mg.Sel.count = b6, (mg.parts k).contains mg.Sel.data = b7
      simp only [Bool.and_true, Bool.not_and, Bool.not_or, Bool.or_assoc]
      rfl
    · unfold mg.refRange
      simp only [List.any_cons, List.any_nil, Bool.or_false, mg.dec_four _ mg.Sel.mark rfl rfl, mg.dec_four _ mg.Sel.handle rfl rfl, mg.dec_four _ mg.Sel.at_ rfl rfl, mg.dec_how, mg.dec_count, mg.num, Bool.or_assoc]
    · unfold mg.refSize
      simp only [List.any_cons, List.any_nil, Bool.or_false, mg.dec_size _ mg.Sel.path 200 rfl, mg.dec_size _ mg.Sel.to 200 rfl, mg.dec_size _ mg.Sel.data 100 rfl, mg.txt, Bool.or_assoc, ByteArray.toList_eq]
      rfl
end Go.Proofs.Ytcpbgiikfabaaaa
