/- Package huff: a tree's lengths. No condition. -/
import Derived.Test.YtkbmpppendelcaaHeapL
namespace Go.Proofs.Ytkbmpppendelcaa
open Go.RowKit
set_option linter.unusedSimpArgs false

theorem pair_at0 (p q : Value) (W : World) : (Instr.index 53 (.agg #[p, q]) (.int .i64 0)).run Try.prog W = .ok p W := by kernel_rfl
theorem pair_at1 (p q : Value) (W : World) : (Instr.index 53 (.agg #[p, q]) (.int .i64 1)).run Try.prog W = .ok q W := by kernel_rfl
theorem intNeTree : 3 ≠ 55 := by decide
def ho.iv (l : List Int) : List Value := l.map (Value.int .i64)
theorem ho.iv_set (l : List Int) (j : Nat) (x : Int) : (ho.iv l).set j (.int .i64 x) = ho.iv (l.set j x) := by
  unfold ho.iv
  rw [List.map_set]
/-- symbols lie in the row -/
def ho.Fits (n : Nat) (t : hl.T) : Prop := ∀ s ∈ hl.symsT t, s < n
def ho.stg (out o1 o2 : List Int) : Nat → List Int
  | 0 => out
  | 1 => o1
  | _ => o2
set_option maxRecDepth 100000 in
set_option maxHeartbeats 1000000 in
theorem tree_lengths (B c g n : Nat) : ∀ (t : hl.T) (p : Nat) (out : List Int) (d : Int) (w : World), TAt w p t → Own w B 3 1 (some ⟨g, 0, none⟩) n c (ho.iv out) → ho.Fits n t → 0 ≤ d → d + hl.dep t ≤ 1000 → (∃ counts, hl.WF counts t) →
    Calls Try.prog 24 #[.pointer (some ⟨p, 0, none⟩), .slice (some ⟨g, 0, none⟩) n c, .int .i64 d] w fun e w' => e = .returned (.tuple #[]) ∧ Own w' B 3 1 (some ⟨g, 0, none⟩) n c (ho.iv (hl.lay t d out)) ∧ Stays w w' (fun k => k = g)
  | .leaf cc s, p, out, d, w, ht, ho_, hf, h0, hd, hw => by
    have hs : s < n := hf s (by rw [hl.symsT]; simp)
    have hlen := ho_.len
    have td := BlkA.get ht
    have lt := BlkA.lt ht
    obtain ⟨_, e9, _, lg, od⟩ := ho_.cell (j := s) (u := .int .i64 (out.getD s 0)) (by
      have hl9 : s < out.length := by unfold ho.iv at hlen; rw [List.length_map] at hlen; omega
      unfold ho.iv
      rw [List.getElem?_map, List.getElem?_eq_getElem hl9, List.getD_eq_getElem?_getD, List.getElem?_eq_getElem hl9]
      rfl)
    simp only [Option.some.injEq, Addr.mk.injEq, and_true] at e9
    subst e9
    have of := ho_.frozenAt s
    have hs' : (s : Int) < (n : Int) := by omega
    have hcap := ho_.cap
    unfold maxLen at hcap
    have HFIN : Hid (Own (w.setCell ⟨g, s, none⟩ (.int .i64 d)) B 3 1 (some ⟨g, 0, none⟩) n c (ho.iv (out.set s d)) ∧ Stays w (w.setCell ⟨g, s, none⟩ (.int .i64 d)) (fun k => k = g)) := Lib.hid ⟨by rw [← ho.iv_set]; exact ho_.setAt _, Stays.set _ _ _ _⟩
    clear ht ho_ hf hw hlen
    go_enter Try.func24, Try.ntmps24
    go_wp2
    refine bodyPost_ret (v := .tuple #[]) (by simp [results, Try.results24, go_sem, *]) rfl ⟨rfl, HFIN.out⟩
  | .node cc pa a pb b e, p, out, d, w, ht, ho_, hf, h0, hd, hw => by
    obtain ⟨counts, hwf⟩ := hw
    have he : e = max (hl.dep a) (hl.dep b) + 1 := hwf.2.1
    have hd' : d + e ≤ 1000 := hd
    have da := hwf.2.2.1.dep0
    have db := hwf.2.2.2.dep0
    have HA : Hid (∀ wx o, TAt wx pa a → Own wx B 3 1 (some ⟨g, 0, none⟩) n c (ho.iv o) → Calls Try.prog 24 #[.pointer (some ⟨pa, 0, none⟩), .slice (some ⟨g, 0, none⟩) n c, .int .i64 (d + 1)] wx fun e w' => e = .returned (.tuple #[]) ∧ Own w' B 3 1 (some ⟨g, 0, none⟩) n c (ho.iv (hl.lay a (d + 1) o)) ∧ Stays wx w' (fun k => k = g)) := Lib.hid (fun wx o h1 h2 => tree_lengths B c g n a pa o (d + 1) wx h1 h2 (fun s hs => hf s (by rw [hl.symsT]; simp [hs])) (by omega) (by omega) ⟨counts, hwf.2.2.1⟩)
    have HB : Hid (∀ wx o, TAt wx pb b → Own wx B 3 1 (some ⟨g, 0, none⟩) n c (ho.iv o) → Calls Try.prog 24 #[.pointer (some ⟨pb, 0, none⟩), .slice (some ⟨g, 0, none⟩) n c, .int .i64 (d + 1)] wx fun e w' => e = .returned (.tuple #[]) ∧ Own w' B 3 1 (some ⟨g, 0, none⟩) n c (ho.iv (hl.lay b (d + 1) o)) ∧ Stays wx w' (fun k => k = g)) := Lib.hid (fun wx o h1 h2 => tree_lengths B c g n b pb o (d + 1) wx h1 h2 (fun s hs => hf s (by rw [hl.symsT]; simp [hs])) (by omega) (by omega) ⟨counts, hwf.2.2.2⟩)
    have td := BlkA.get ht.1
    have lt := BlkA.lt ht.1
    have HT := Lib.hid ht
    have hw1 : IntKind.i64.wrap (d + 1) = d + 1 := IntWalk.i64_in _ (by omega)
    have i0 := pair_at0 (.pointer (some ⟨pa, 0, none⟩)) (.pointer (some ⟨pb, 0, none⟩))
    have i1 := pair_at1 (.pointer (some ⟨pa, 0, none⟩)) (.pointer (some ⟨pb, 0, none⟩))
    obtain ⟨o1, ho1⟩ : ∃ o1, hl.lay a (d + 1) out = o1 := ⟨_, rfl⟩
    obtain ⟨o2, ho2⟩ : ∃ o2, hl.lay b (d + 1) o1 = o2 := ⟨_, rfl⟩
    have HE : Hid (hl.lay (.node cc pa a pb b e) d out = o2) := Lib.hid (by rw [hl.lay, ho1, ho2])
    have HO1 := Lib.hid ho1
    have HO2 := Lib.hid ho2
    have H0 : Hid (Own w B 3 1 (some ⟨g, 0, none⟩) n c (ho.iv (ho.stg out o1 o2 0)) ∧ Stays w w (fun k => k = g)) := Lib.hid ⟨ho_, Stays.refl _ _⟩
    have HF0 := Lib.hid ho_
    rw [HE.out]
    clear ht ho_ hf hwf he hd hd' ho1 ho2
    go_enter Try.func24, Try.ntmps24
    go_wp2
    go_loopw [25] (fun s25 wr => ∃ k : Nat, k ≤ 2 ∧ s25 = .int .i64 (k : Int) ∧ Hid (Own wr B 3 1 (some ⟨g, 0, none⟩) n c (ho.iv (ho.stg out o1 o2 k)) ∧ Stays w wr (fun k => k = g))) (fun s25 _ => 2 - (intOf s25).toNat)
    case atStart => exact ⟨0, by omega, rfl, H0⟩
    case round =>
      obtain ⟨k, hk, rfl, HK⟩ := hrel
      rename World => wr
      obtain ⟨hO, hS⟩ := HK.out
      have key : ∀ q cs, BlkA w q 55 cs → ¬ q = g := fun q cs hb e => by
        subst e
        exact hb.apart HF0.out intNeTree rfl
      have hA := TAt.stays hS key HT.out.2.1
      have hB := TAt.stays hS key HT.out.2.2
      have hk3 : k = 0 ∨ k = 1 ∨ k = 2 := by omega
      rcases hk3 with rfl | rfl | rfl
      · have HC := Lib.hid (HA.out wr out hA hO)
        have HS := Lib.hid hS
        clear hA hB hO hS key HK
        go_wp2_with (first
          | (go_at_call 24; ((with_reducible refine HC.out.mono ?_); rintro e w4 ⟨rfl, h4, s4⟩; have H4 := Lib.hid h4; have S4 := Lib.hid s4; clear h4 s4))
          | fail)
        go_roundw
        case rel => exact ⟨1, by omega, rfl, Lib.hid ⟨by rw [HO1.out] at H4; exact H4.out, HS.out.comp S4.out⟩⟩
        case measure => simp [intOf]
      · have HC := Lib.hid (HB.out wr o1 hB hO)
        have HS := Lib.hid hS
        clear hA hB hO hS key HK
        go_wp2_with (first
          | (go_at_call 24; ((with_reducible refine HC.out.mono ?_); rintro e w4 ⟨rfl, h4, s4⟩; have H4 := Lib.hid h4; have S4 := Lib.hid s4; clear h4 s4))
          | fail)
        go_roundw
        case rel => exact ⟨2, by omega, rfl, Lib.hid ⟨by rw [HO2.out] at H4; exact H4.out, HS.out.comp S4.out⟩⟩
        case measure => simp [intOf]
      · have HF := Lib.hid (And.intro hO hS)
        clear hA hB hO hS key HK
        go_wp2
        go_end0
        exact ⟨rfl, HF.out⟩
end Go.Proofs.Ytkbmpppendelcaa
