/- Package huff: Lengths. No condition. -/
import Derived.Test.YtkbmpppendelcaaHeapQ
import Derived.Test.YtkbmpppendelcaaMake
namespace Go.Proofs.Ytkbmpppendelcaa
open Go.RowKit
set_option linter.unusedSimpArgs false

def hl.posTo (counts : List Int) (k : Nat) : List Nat := (List.range k).filter fun s => decide (0 < counts.getD s 0)
theorem hl.posTo_succ (counts : List Int) (k : Nat) : hl.posTo counts (k + 1) = hl.posTo counts k ++ if 0 < counts.getD k 0 then [k] else [] := by
  unfold hl.posTo
  rw [List.range_succ, List.filter_append]
  congr 1
  by_cases h : 0 < counts.getD k 0
  · rw [if_pos h, List.filter_cons, if_pos (by simpa using h)]
    rfl
  · rw [if_neg h, List.filter_cons, if_neg (by simpa using h)]
    rfl
def hl.leafs (counts : List Int) (l : List Nat) : List hl.T := l.map fun s => hl.T.leaf (counts.getD s 0) s
/-- the least cost that a code may have -/
def hl.best (counts : List Int) : Int := match hl.pos counts with
  | [s] => counts.getD s 0
  | l => hl.hc (l.map fun s => counts.getD s 0)
theorem hl.best_one {counts : List Int} {s : Nat} (h : hl.pos counts = [s]) : hl.best counts = counts.getD s 0 := by unfold hl.best; rw [h]
theorem hl.best_not {counts : List Int} (h : (hl.pos counts).length ≠ 1) : hl.best counts = hl.hc ((hl.pos counts).map fun s => counts.getD s 0) := by
  unfold hl.best
  split
  · next s e => rw [e] at h; exact absurd rfl h
  · rfl
/-- what Lengths answers -/
def LenPost (counts : List Int) (w : World) (e : Ending) (w' : World) : Prop :=
  Below w.heap.size w w' ∧ if hl.fault counts ≠ 0 then e = .returned (.tuple #[.slice none 0 0, .int .i64 (hl.fault counts)]) else
    ∃ g out, e = .returned (.tuple #[.slice (some ⟨g, 0, none⟩) counts.length counts.length, .int .i64 0]) ∧ hl.Good counts out (hl.best counts) ∧ Own w' w.heap.size 3 1 (some ⟨g, 0, none⟩) counts.length counts.length (ho.iv out)
theorem ho.ini_spec (gs : List (Nat × hl.T)) : hp.Hp ho.ek ho.ez (ho.ini gs (gs.length / 2) gs) gs.length 0 ∧ (ho.ini gs (gs.length / 2) gs).Perm gs :=
  hp.init_spec ho.ek ho.ez gs (gs.length / 2) gs rfl (fun k h0 hk hlo => by omega)
theorem FAt.pushed {w wa w6 : World} {B Fb : Nat} {A A6 : Option Addr} {c c6 : Nat} {fs : List (Nat × hl.T)} {p : Nat} {t : hl.T} (h : FAt w B Fb A c fs) (hb : Below w.heap.size w wa) (hg : Grew wa w6 A A6) (ho_ : Own w6 B 52 1 A6 (fs.length + 1) c6 (fs.map ho.ec ++ [.pointer (some ⟨p, 0, none⟩)])) (ht : TAt wa p t) :
    FAt (w6.setCell ⟨Fb, 0, none⟩ (.slice A6 (fs.length + 1) c6)) B Fb A6 c6 (fs ++ [(p, t)]) ∧ Stays w (w6.setCell ⟨Fb, 0, none⟩ (.slice A6 (fs.length + 1) c6)) (fun k => k = Fb ∨ blkOf A = some k) := by
  have ha := h.next hb
  have hst6 : Stays wa w6 (fun q => blkOf A = some q) := Stays.grew hg
  have hb6 := ha.box.stays hst6 ha.far
  have hs6 : Stays wa (w6.setCell ⟨Fb, 0, none⟩ (.slice A6 (fs.length + 1) c6)) (fun k => k = Fb ∨ blkOf A = some k) := (hst6.mono fun _ _ e => .inr e).comp ((Stays.set _ _ _ _).mono fun _ _ e => .inl e)
  have hln : (fs ++ [(p, t)]).length = fs.length + 1 := by rw [List.length_append]; rfl
  refine ⟨⟨h.lo, ?_, ⟨?_, fun x hx => ?_⟩⟩, (Stays.of_below hb _).comp hs6⟩
  · rw [hln]
    simpa using hb6.set 0 (.slice A6 (fs.length + 1) c6)
  · rw [hln, List.map_append]
    exact ho_.setCell (hb6.apart ho_ rowNeBox) _
  · have key : ∀ k cs, BlkA wa k 55 cs → ¬ (k = Fb ∨ blkOf A = some k) := fun k cs hb2 e => by
      rcases e with e | e
      · exact hb2.two ha.box treeNeBox e
      · exact hb2.apart ha.rt.row treeNeRow e
    rcases List.mem_append.1 hx with hx | hx
    · exact (ha.rt.tr x hx).stays hs6 key
    · rw [List.mem_singleton] at hx
      subst hx
      exact ht.stays hs6 key
theorem Own.out {w w' : World} {B Og n c : Nat} {xs : List Value} {B2 Fb : Nat} {A : Option Addr} {c2 : Nat} {fs : List (Nat × hl.T)} (h : Own w B 3 1 (Option.some ⟨Og, 0, none⟩) n c xs) (hf : FAt w B2 Fb A c2 fs) (hne : Og ≠ Fb) (hs : Stays w w' (fun k => k = Fb ∨ blkOf A = Option.some k)) : Own w' B 3 1 (Option.some ⟨Og, 0, none⟩) n c xs :=
  h.stays hs fun k hk e => by
    have hk' : Og = k := by simpa [blkOf] using hk
    subst hk'
    rcases e with e | e
    · exact hne e
    · rcases Own.two h hf.rt.row (by decide) with h1 | h1
      · cases h1
      · exact h1 (by rw [e]; rfl)
theorem intNeTreeP : 3 ≠ 52 := by decide
theorem intNeForest : 3 ≠ 51 := by decide
set_option maxRecDepth 100000 in
set_option maxHeartbeats 2000000 in
theorem huff_Lengths (counts : List Int) (A0 : Option Addr) (c0 : Nat) (w : World) (h0 : SlRep Rep.int w (· < w.heap.size) counts A0 c0) (hn : counts.length ≤ 9223372036854775807) :
    Calls Try.prog 8 #[.slice A0 counts.length c0] w (LenPost counts w) := by
  have HL := Lib.hid h0
  have HCF := Lib.hid (huff_ContainsFunc counts A0 c0 _ w h0 hn)
  by_cases h64 : 64 < counts.length
  · have HE : Hid (hl.fault counts = 1) := Lib.hid (by unfold hl.fault; rw [if_pos h64])
    have h64' : (64 : Int) < (counts.length : Int) := by omega
    have HFIN : Hid (∀ w', Below w.heap.size w w' → LenPost counts w (.returned (.tuple #[.slice none 0 0, .int .i64 1])) w') := Lib.hid (fun w' hb => ⟨hb, by rw [HE.out, if_pos (by decide)]⟩)
    clear h0
    go_enter Try.func8, Try.ntmps8
    go_wp2
    go_ret2
    exact HFIN.out _ (by repeat (first | (with_reducible exact Below.refl _ _) | (with_reducible assumption) | (with_reducible refine bset ?_ ?_ _) | (with_reducible refine balloc ?_ _) | (with_reducible refine Below.drew ?_) | (with_reducible refine bdrewN ?_ _) | (with_reducible refine bnext ?_ (by with_reducible assumption)) | exact Nat.le_refl _ | (simp; done) | omega | (simp; omega)))
  have h64' : ¬ (64 : Int) < (counts.length : Int) := by omega
  cases hbd : hl.bad counts with
  | true =>
    have HE : Hid (hl.fault counts = 2) := Lib.hid (by unfold hl.fault; rw [if_neg h64, if_pos hbd])
    have HFIN : Hid (∀ w', Below w.heap.size w w' → LenPost counts w (.returned (.tuple #[.slice none 0 0, .int .i64 2])) w') := Lib.hid (fun w' hb => ⟨hb, by rw [HE.out, if_pos (by decide)]⟩)
    rw [hbd] at HCF
    clear h0 hbd
    go_enter Try.func8, Try.ntmps8
    go_wp2_with (first
      | (go_at_call 19; ((with_reducible refine HCF.out.mono ?_); rintro e _ ⟨rfl, rfl⟩))
      | fail)
    go_ret2
    exact HFIN.out _ (by repeat (first | (with_reducible exact Below.refl _ _) | (with_reducible assumption) | (with_reducible refine bset ?_ ?_ _) | (with_reducible refine balloc ?_ _) | (with_reducible refine Below.drew ?_) | (with_reducible refine bdrewN ?_ _) | (with_reducible refine bnext ?_ (by with_reducible assumption)) | exact Nat.le_refl _ | (simp; done) | omega | (simp; omega)))
  | false =>
    have HE : Hid (hl.fault counts = 0) := Lib.hid (by unfold hl.fault; rw [if_neg h64, hbd]; rfl)
    have HR := Lib.hid (fun n hn => (hl.bad_not hbd n hn).2)
    have HR0 := Lib.hid (fun n hn => (hl.bad_not hbd n hn).1)
    have HFIN : Hid (∀ w' g out, Below w.heap.size w w' → hl.Good counts out (hl.best counts) → Own w' w.heap.size 3 1 (some ⟨g, 0, none⟩) counts.length counts.length (ho.iv out) → LenPost counts w (.returned (.tuple #[.slice (some ⟨g, 0, none⟩) counts.length counts.length, .int .i64 0])) w') := Lib.hid (fun w' g out hb hg ho_ => ⟨hb, by rw [HE.out, if_neg (by decide)]; exact ⟨g, out, rfl, hg, ho_⟩⟩)
    rw [hbd] at HCF
    obtain ⟨N, hN⟩ : ∃ N, counts.length = N := ⟨_, rfl⟩
    have hn64 : N ≤ 64 := by omega
    have HN := Lib.hid hN
    have hmk := make_row (P := Try.prog) (i := Try.t3) (z := .int .i64 0) Try.underlying29 (by kernel_rfl) (by kernel_rfl) rfl rfl N (N : Int) rfl (by show 8 * _ ≤ _; omega) (by omega)
    rw [hN] at HCF HFIN h64' ⊢
    clear h0 hbd hn h64
    go_enter Try.func8, Try.ntmps8
    go_upto_region 7 with (first
      | (go_at_call 19; ((with_reducible refine HCF.out.mono ?_); rintro e _ ⟨rfl, rfl⟩))
      | fail)
    generalize hw2 : World.alloc (World.alloc w _) _ = w2
    have hb2 : Below w.heap.size w w2 := by rw [← hw2]; exact balloc (balloc (bself w) _) _
    have HO2 : Hid (Own w2 w.heap.size 3 1 (some ⟨w.heap.size, 0, none⟩) N N (ho.iv (List.replicate N 0))) := Lib.hid (by
      have h := (Own.lit w w.heap.size 3 1 N (List.replicate N (.int .i64 0)) (Nat.le_refl _) (by simp) (by unfold maxLen; omega)).alloc (.cells #[.slice none 0 0] 51)
      rw [List.toArray_replicate] at h
      rw [← hw2]
      unfold ho.iv
      rw [List.map_replicate]
      exact h)
    have HF2 : Hid (FAt w2 w.heap.size (w.heap.size + 1) none 0 []) := Lib.hid (by
      refine ⟨by omega, ?_, ⟨Own.nil _ _ _ _, fun x hx => by cases hx⟩⟩
      rw [← hw2]
      have h := BlkA.new (w.alloc (.cells (Array.replicate N (.int .i64 0)) 3)) 51 #[.slice none 0 0]
      rw [World.size_alloc] at h
      exact h)
    have HB2 := Lib.hid hb2
    clear hw2 hb2 hmk
    have HP : Hid (∀ k, k < N → (counts.getD k 0 ≤ 1048576 ∧ 0 ≤ counts.getD k 0)) := Lib.hid (fun k hk => by
      have hm : counts.getD k 0 ∈ counts := by rw [List.getD_eq_getElem?_getD, List.getElem?_eq_getElem (by omega)]; exact List.getElem_mem _
      exact ⟨HR.out _ hm, HR0.out _ hm⟩)
    go_wp2
    go_loopw [24] (fun i wr => ∃ (k : Nat) (A : Option Addr) (c : Nat) (gs : List (Nat × hl.T)), k ≤ N ∧ i = .int .i64 (k : Int) ∧ Hid (gs.map Prod.snd = hl.leafs counts (hl.posTo counts k) ∧ gs.length ≤ k ∧ FAt wr w.heap.size (w.heap.size + 1) A c gs ∧ Own wr w.heap.size 3 1 (some ⟨w.heap.size, 0, none⟩) N N (ho.iv (List.replicate N 0)) ∧ Below w.heap.size w wr)) (fun i _ => N - (intOf i).toNat)
    case atStart => exact ⟨0, none, 0, [], by omega, rfl, Lib.hid ⟨rfl, Nat.le_refl _, HF2.out, HO2.out, HB2.out⟩⟩
    case round =>
      obtain ⟨k, A, c, gs, hk, rfl, HK⟩ := hrel
      rename World => wr
      obtain ⟨k1, k2, k3, k4, k5⟩ := HK.out
      by_cases hlt : k < N
      · obtain ⟨bA, oA, rfl, hbA, hc1⟩ := int_at (HL.out.below k5) (by omega : k < counts.length)
        have hlt' : (k : Int) < (N : Int) := by omega
        have hbr : bA < wr.heap.size := Nat.lt_of_lt_of_le hbA k5.size
        have hpk := HP.out k hlt
        by_cases hpos : 0 < counts.getD k 0
        · have HPT : Hid (hl.leafs counts (hl.posTo counts (k + 1)) = hl.leafs counts (hl.posTo counts k) ++ [.leaf (counts.getD k 0) k]) := Lib.hid (by
            rw [hl.posTo_succ, if_pos hpos]
            unfold hl.leafs
            rw [List.map_append]
            rfl)
          have f0 := k3.box.get 0
          have ff := k3.box.frozen 0
          have lF := k3.box.lt
          simp only [List.getElem?_toArray, List.getElem?_cons_zero] at f0
          have K1 := Lib.hid k1
          have K2 := Lib.hid k2
          have K3 := Lib.hid k3
          have K4 := Lib.hid k4
          have K5 := Lib.hid k5
          generalize counts.getD k 0 = y at *
          clear k1 k2 k3 k4 k5 HK
          go_wp2_with (first
            | (at_builtin; refine wp_app _ rfl _ _ _ rfl elemTree w.heap.size A gs.length c _ rfl (K3.out.rt.row.next (by exact (by repeat (first | (with_reducible exact Below.refl _ _) | (with_reducible assumption) | (with_reducible refine bset ?_ ?_ _) | (with_reducible refine balloc ?_ _) | (with_reducible refine Below.drew ?_) | (with_reducible refine bdrewN ?_ _) | (with_reducible refine bnext ?_ (by with_reducible assumption)) | exact Nat.le_refl _ | (simp; done) | omega | (simp; omega))))) _ 1 1 [.pointer (some ⟨wr.heap.size, 0, none⟩)] rfl rfl (Cells.newAt _ _ _ (by simp)) (by simp [Value.oneCell']) (by have := K2.out; omega) (by have := K2.out; unfold maxLen; omega) (Nat.le_trans K5.out.size (by simp; omega)) ?_; intro A6 c6 w6 hO6 hg6; have hst6 : Stays wr w6 (fun q => blkOf A = some q) := (Stays.of_below (by exact (by repeat (first | (with_reducible exact Below.refl _ _) | (with_reducible assumption) | (with_reducible refine bset ?_ ?_ _) | (with_reducible refine balloc ?_ _) | (with_reducible refine Below.drew ?_) | (with_reducible refine bdrewN ?_ _) | (with_reducible refine bnext ?_ (by with_reducible assumption)) | exact Nat.le_refl _ | (simp; done) | omega | (simp; omega)))) _).comp (Stays.grew hg6); have b6 := K3.out.box.stays hst6 K3.out.far; have f6 := b6.get 0; have ff6 := b6.frozen 0; have l6 := b6.lt; have HX6 := Lib.hid (K3.out.pushed (t := .leaf y k) (by exact (by repeat (first | (with_reducible exact Below.refl _ _) | (with_reducible assumption) | (with_reducible refine bset ?_ ?_ _) | (with_reducible refine balloc ?_ _) | (with_reducible refine Below.drew ?_) | (with_reducible refine bdrewN ?_ _) | (with_reducible refine bnext ?_ (by with_reducible assumption)) | exact Nat.le_refl _ | (simp; done) | omega | (simp; omega)))) hg6 hO6 ((BlkA.new wr _ _).alloc _)); clear hO6 hg6 hst6 b6)
            | fail)
          go_roundw
          case rel =>
            refine ⟨k + 1, A6, c6, gs ++ [(wr.heap.size, .leaf y k)], by omega, by go_num, Lib.hid ⟨?_, by rw [List.length_append]; have := K2.out; simp only [List.length_cons, List.length_nil]; omega, HX6.out.1, K4.out.out K3.out (by omega) HX6.out.2, K5.out.trans (HX6.out.2.below K5.out.size (fun q hq => ?_))⟩⟩
            · rw [List.map_append, K1.out, HPT.out]
              rfl
            · rcases hq with e | e
              · omega
              · exact (K3.out.rt.row.lt q e).1
          case measure => simp [intOf]; omega
        · have HPT : Hid (hl.leafs counts (hl.posTo counts (k + 1)) = hl.leafs counts (hl.posTo counts k)) := Lib.hid (by rw [hl.posTo_succ, if_neg hpos, List.append_nil])
          have HK2 := Lib.hid (And.intro (HPT.out ▸ k1 : gs.map Prod.snd = hl.leafs counts (hl.posTo counts (k + 1))) (And.intro (Nat.le_succ_of_le k2) (And.intro k3 (And.intro k4 k5))))
          generalize counts.getD k 0 = y at *
          clear k1 k2 k3 k4 k5 HK
          go_wp2
          go_roundw
          case rel => exact ⟨k + 1, A, c, gs, by omega, by go_num, HK2⟩
          case measure => simp [intOf]; omega
      · obtain rfl : k = N := by omega
        have hps : hl.posTo counts k = hl.pos counts := by rw [← HN.out]; rfl
        rw [hps] at k1
        have hlen1 : gs.length = (hl.pos counts).length := by have := congrArg List.length k1; simpa [hl.leafs] using this
        have f0 := k3.box.get 0
        have lF := k3.box.lt
        simp only [List.getElem?_toArray, List.getElem?_cons_zero] at f0
        by_cases h1 : gs.length = 1
        · obtain ⟨s, hs⟩ : ∃ s, hl.pos counts = [s] := List.length_eq_one_iff.1 (by omega)
          obtain ⟨x, rfl⟩ : ∃ x, gs = [x] := List.length_eq_one_iff.1 h1
          obtain ⟨p, t⟩ := x
          have hx : t = .leaf (counts.getD s 0) s := by rw [hs] at k1; simpa [hl.leafs] using k1
          subst hx
          have ht : TAt wr p (.leaf (counts.getD s 0) s) := k3.rt.tr (p, .leaf (counts.getD s 0) s) (by simp)
          obtain ⟨g, rfl, _, lg, a0⟩ := k3.rt.at_ (i := 0) (by simp)
          have td := BlkA.get ht
          have lt := BlkA.lt ht
          have hsk : s < k := by have := (hl.mem_pos.1 (by rw [hs]; simp : s ∈ hl.pos counts)).1; have := HN.out; omega
          obtain ⟨_, e9, _, lo9, od⟩ := k4.cell (j := s) (u := .int .i64 0) (by unfold ho.iv; rw [List.map_replicate, List.getElem?_replicate, if_pos hsk])
          simp only [Option.some.injEq, Addr.mk.injEq, and_true] at e9
          subst e9
          have of := k4.frozenAt s
          have hs' : (s : Int) < (k : Int) := by omega
          have HFI : Hid (LenPost counts w (.returned (.tuple #[.slice (some ⟨w.heap.size, 0, none⟩) k k, .int .i64 0])) (wr.setCell ⟨w.heap.size, s, none⟩ (.int .i64 1))) := Lib.hid (HFIN.out _ _ ((List.replicate k 0).set s 1) (bset k5 (Nat.le_refl _) _) (by
            have hg := hl.good_one hs (by omega)
            rw [hl.best_one hs]
            rw [HN.out] at hg
            exact hg) (by rw [← ho.iv_set]; exact k4.setAt _))
          simp only [List.getD_cons_zero] at a0
          clear k1 k3 k4 k5 HK ht h1 hlen1 hps
          generalize counts.getD s 0 = y at *
          go_wp2
          go_ret2
          exact HFI.out
        · have h1' : ((gs.length : Int) == 1) = false := by simp; omega
          have h1'' : ¬ (gs.length : Int) = 1 := by omega
          have hstF : hl.FI counts (gs.map Prod.snd) := by
            rw [k1]
            exact hl.FI.start counts
          have hlow := ho.low_of hstF (by omega) HR.out
          have hini := ho.ini_spec gs
          have hil : (ho.ini gs (gs.length / 2) gs).length = gs.length := hini.2.length_eq
          have hst : ho.St counts (ho.ini gs (gs.length / 2) gs) := ⟨by rw [hil]; exact hini.1, hstF.perm (hini.2.map Prod.snd), fun e => by omega⟩
          have HBE : Hid (hl.best counts = hl.hc ((hl.pos counts).map fun s => counts.getD s 0)) := Lib.hid (hl.best_not (by omega))
          have HIN := Lib.hid (heap_Init w.heap.size (w.heap.size + 1) A c gs wr k3 hlow (by omega))
          have HST := Lib.hid hst
          have K3 := Lib.hid k3
          have K4 := Lib.hid k4
          have K5 := Lib.hid k5
          generalize ho.ini gs (gs.length / 2) gs = gi at *
          clear k1 k3 k4 k5 HK hps hlen1 h1 hstF hlow hini hil hst
          go_wp2_with (first
            | (go_at_call 21; ((with_reducible refine HIN.out.mono ?_); rintro e w4 ⟨rfl, h4, s4⟩; have H4 := Lib.hid h4; have S4 := Lib.hid s4; clear h4 s4))
            | fail)
          have H0 : Hid (ho.St counts gi ∧ FAt w4 w.heap.size (w.heap.size + 1) A c gi ∧ Own w4 w.heap.size 3 1 (some ⟨w.heap.size, 0, none⟩) k k (ho.iv (List.replicate k 0)) ∧ Below w.heap.size w w4) := Lib.hid ⟨HST.out, H4.out, K4.out.out K3.out (by omega) (S4.out.mono fun _ _ e => .inr e), K5.out.trans (S4.out.below K5.out.size (fun q hq => (K3.out.rt.row.lt q hq).1))⟩
          go_loopw [8] (fun _ wr => ∃ (A : Option Addr) (c : Nat) (gs : List (Nat × hl.T)), Hid (ho.St counts gs ∧ FAt wr w.heap.size (w.heap.size + 1) A c gs ∧ Own wr w.heap.size 3 1 (some ⟨w.heap.size, 0, none⟩) k k (ho.iv (List.replicate k 0)) ∧ Below w.heap.size w wr)) (fun _ wr => match wr.cell? ⟨w.heap.size + 1, 0, none⟩ with | some (.slice _ n _) => n | _ => 0)
          case atStart => exact ⟨A, c, gi, H0⟩
          case round =>
            obtain ⟨A, c, gs, HK⟩ := hrel
            rename World => wr
            obtain ⟨k0, k3, k4, k5⟩ := HK.out
            have hgl := ho.len_of k0.fi (by omega)
            have f0 := k3.box.get 0
            have lF := k3.box.lt
            simp only [List.getElem?_toArray, List.getElem?_cons_zero] at f0
            by_cases h2 : 2 ≤ gs.length
            · have h2' : (1 : Int) < (gs.length : Int) := by omega
              obtain ⟨g1, g2, a, b, HRD⟩ := ho.round (by omega) HR.out h2 k0
              have HR1 := Lib.hid HRD
              have hl1 := HRD.l1
              have hl2 := HRD.l2
              have HP1 : Hid (∀ wx, Below wr.heap.size wr wx → Calls Try.prog 22 #[.iface 57 (.pointer (some ⟨w.heap.size + 1, 0, none⟩))] wx fun e w' => e = .returned (.iface 52 (.pointer (some ⟨a.1, 0, none⟩))) ∧ FAt w' w.heap.size (w.heap.size + 1) A c g1 ∧ Stays wx w' (fun k => k = w.heap.size + 1 ∨ blkOf A = some k)) := Lib.hid (fun wx hb => by
                have h9 := heap_Pop w.heap.size (w.heap.size + 1) A c gs wx (k3.next hb) (by omega) (ho.low_of k0.fi (by omega) HR.out) (by omega)
                rw [← HRD.e1, ← HRD.ea] at h9
                exact h9)
              have HP2 : Hid (∀ wx, FAt wx w.heap.size (w.heap.size + 1) A c g1 → Calls Try.prog 22 #[.iface 57 (.pointer (some ⟨w.heap.size + 1, 0, none⟩))] wx fun e w' => e = .returned (.iface 52 (.pointer (some ⟨b.1, 0, none⟩))) ∧ FAt w' w.heap.size (w.heap.size + 1) A c g2 ∧ Stays wx w' (fun k => k = w.heap.size + 1 ∨ blkOf A = some k)) := Lib.hid (fun wx hb => by
                have h9 := heap_Pop w.heap.size (w.heap.size + 1) A c g1 wx hb (by omega) HRD.low1 (by omega)
                rw [← HRD.e2, ← HRD.eb] at h9
                exact h9)
              have HPU : Hid (∀ wx p, FAt wx w.heap.size (w.heap.size + 1) A c g2 → TAt wx p (hl.join a.1 a.2 b.1 b.2) → Calls Try.prog 23 #[.iface 57 (.pointer (some ⟨w.heap.size + 1, 0, none⟩)), .iface 52 (.pointer (some ⟨p, 0, none⟩))] wx fun e w' => e = .returned (.tuple #[]) ∧ ∃ A' c', FAt w' w.heap.size (w.heap.size + 1) A' c' (ho.psh g2 (p, hl.join a.1 a.2 b.1 b.2)) ∧ Stays wx w' (fun k => k = w.heap.size + 1 ∨ blkOf A = some k) ∧ ∀ k, blkOf A' = some k → blkOf A = some k ∨ wx.heap.size ≤ k) := Lib.hid (fun wx p h1 h2 => heap_Push w.heap.size (w.heap.size + 1) A c g2 p (hl.join a.1 a.2 b.1 b.2) wx h1 h2 (HRD.low2 p) (by omega))
              have HST1 : Hid (∀ p, ho.St counts (ho.psh g2 (p, hl.join a.1 a.2 b.1 b.2))) := Lib.hid HRD.st
              have HLN1 : Hid (∀ p, (ho.psh g2 (p, hl.join a.1 a.2 b.1 b.2)).length = gs.length - 1) := Lib.hid HRD.len
              have HTA : Hid (TAt wr a.1 a.2) := Lib.hid (k3.rt.tr a HRD.ma)
              have HMB : Hid (b ∈ g1) := Lib.hid HRD.mb
              have HKEY : Hid (∀ wx fs, FAt wx w.heap.size (w.heap.size + 1) A c fs → ∀ q cs, BlkA wx q 55 cs → ¬ (q = w.heap.size + 1 ∨ blkOf A = some q)) := Lib.hid (fun wx fs hf q cs hb e => by
                rcases e with e | e
                · exact hb.two hf.box treeNeBox e
                · exact hb.apart hf.rt.row treeNeRow e)
              have hca : hl.cnt a.2 ≤ 67108864 ∧ 0 ≤ hl.cnt a.2 := by
                have hm : a.2 ∈ gs.map Prod.snd := List.mem_map.2 ⟨a, HRD.ma, rfl⟩
                exact ⟨k0.fi.cnt_le (by omega) HR.out hm, by have := (k0.fi.wf _ hm).cnt1; omega⟩
              have hcb : hl.cnt b.2 ≤ 67108864 ∧ 0 ≤ hl.cnt b.2 := by
                have hm : b.2 ∈ gs.map Prod.snd := List.mem_map.2 ⟨b, HRD.sub HRD.mb, rfl⟩
                exact ⟨k0.fi.cnt_le (by omega) HR.out hm, by have := (k0.fi.wf _ hm).cnt1; omega⟩
              have hda := ho.low_of k0.fi (by omega) HR.out a HRD.ma
              have hdb := HRD.low1 b HRD.mb
              have K3 := Lib.hid k3
              have K4 := Lib.hid k4
              have K5 := Lib.hid k5
              have HJN : Hid (hl.join a.1 a.2 b.1 b.2 = .node (hl.cnt a.2 + hl.cnt b.2) a.1 a.2 b.1 b.2 (max (hl.dep a.2) (hl.dep b.2) + 1)) := Lib.hid rfl
              clear k0 k3 k4 k5 HK HRD HR1
              obtain ⟨pa, ta⟩ := a
              obtain ⟨pb, tb⟩ := b
              simp only at HP1 HP2 HPU HST1 HLN1 HTA hca hcb hda hdb HJN
              have hta := assert_tree pa
              have htb := assert_tree pb
              go_upto_region 18 with (fail)
              --<n18
              refine wp_region_tail [] (fun _ => True) (by kernel_rfl) (trivial) ?_
              intro hHeld
              refine wpAnyT_pure (i := 0) (v := ?_) rfl (by kernel_rfl) (by kernel_rfl) (by kernel_rfl) (fun _ _ _ h => h) (.inl ⟨by kernel_rfl, ?_⟩) (fun _ => hHeld) ?_ (by decide)
              rotate_left
              · intro w9; go_simp; try with_reducible rfl
              try simp only [Act.put, List.getElem_toArray, List.getElem_cons_succ, List.getElem_cons_zero, List.setIfInBounds_toArray, List.set_cons_zero, List.set_cons_succ]
              refine wpAnyT_pure (i := 3) (v := ?_) rfl (by kernel_rfl) (by kernel_rfl) (by kernel_rfl) (fun _ _ _ h => h) (.inl ⟨by kernel_rfl, ?_⟩) (fun _ => hHeld) ?_ (by decide)
              rotate_left
              · intro w9; go_simp; try with_reducible rfl
              try simp only [Act.put, List.getElem_toArray, List.getElem_cons_succ, List.getElem_cons_zero, List.setIfInBounds_toArray, List.set_cons_zero, List.set_cons_succ]
              refine wpAnyT_next (i := 1) (by kernel_rfl) rfl ?_
              intro K hK
              go_simp
              go_at_call 22
              refine (HP1.out _ (by exact (by repeat (first | (with_reducible exact Below.refl _ _) | (with_reducible assumption) | (with_reducible refine bset ?_ ?_ _) | (with_reducible refine balloc ?_ _) | (with_reducible refine Below.drew ?_) | (with_reducible refine bdrewN ?_ _) | (with_reducible refine bnext ?_ (by with_reducible assumption)) | exact Nat.le_refl _ | (simp; done) | omega | (simp; omega))))).mono ?_
              rintro e w4 ⟨rfl, h4, s4⟩
              have S4 : Hid (Stays wr w4 (fun k => k = w.heap.size + 1 ∨ blkOf A = some k)) := Lib.hid ((Stays.of_below (by exact (by repeat (first | (with_reducible exact Below.refl _ _) | (with_reducible assumption) | (with_reducible refine bset ?_ ?_ _) | (with_reducible refine balloc ?_ _) | (with_reducible refine Below.drew ?_) | (with_reducible refine bdrewN ?_ _) | (with_reducible refine bnext ?_ (by with_reducible assumption)) | exact Nat.le_refl _ | (simp; done) | omega | (simp; omega)))) _).comp s4)
              have H4 := Lib.hid h4
              clear h4 s4
              go_simp
              have hHeld2 := trivial
              refine hK.out _ _ (fun _ => hHeld2) ?_
              clear hK K hHeld
              have hHeld := hHeld2
              clear hHeld2
              try simp only [Act.put, List.getElem_toArray, List.getElem_cons_succ, List.getElem_cons_zero, List.setIfInBounds_toArray, List.set_cons_zero, List.set_cons_succ]
              refine wpAnyT_pure (i := 2) (v := ?_) rfl (by kernel_rfl) (by kernel_rfl) (by kernel_rfl) (fun _ _ _ h => h) (.inl ⟨by kernel_rfl, ?_⟩) (fun _ => hHeld) ?_ (by decide)
              rotate_left
              · intro w9; go_simp; try with_reducible rfl
              try simp only [Act.put, List.getElem_toArray, List.getElem_cons_succ, List.getElem_cons_zero, List.setIfInBounds_toArray, List.set_cons_zero, List.set_cons_succ]
              refine wpAnyT_next (i := 4) (by kernel_rfl) rfl ?_
              intro K hK
              go_simp
              go_at_call 22
              refine (HP2.out _ H4.out).mono ?_
              rintro e w5 ⟨rfl, h5, s5⟩
              have H5 := Lib.hid h5
              have S5 := Lib.hid s5
              clear h5 s5
              go_simp
              have hHeld2 := trivial
              refine hK.out _ _ (fun _ => hHeld2) ?_
              clear hK K hHeld
              have hHeld := hHeld2
              clear hHeld2
              try simp only [Act.put, List.getElem_toArray, List.getElem_cons_succ, List.getElem_cons_zero, List.setIfInBounds_toArray, List.set_cons_zero, List.set_cons_succ]
              refine wpAnyT_pure (i := 5) (v := ?_) rfl (by kernel_rfl) (by kernel_rfl) (by kernel_rfl) (fun _ _ _ h => h) (.inl ⟨by kernel_rfl, ?_⟩) (fun _ => hHeld) ?_ (by decide)
              rotate_left
              · intro w9; go_simp; try with_reducible rfl
              try simp only [Act.put, List.getElem_toArray, List.getElem_cons_succ, List.getElem_cons_zero, List.setIfInBounds_toArray, List.set_cons_zero, List.set_cons_succ]
              refine wpAnyT_pure (i := 6) (v := ?_) rfl (by kernel_rfl) (by kernel_rfl) (by kernel_rfl) (fun _ _ _ h => h) (.inl ⟨by kernel_rfl, ?_⟩) (fun _ => hHeld) ?_ (by decide)
              rotate_left
              · intro w9; go_simp; try with_reducible rfl
              try simp only [Act.put, List.getElem_toArray, List.getElem_cons_succ, List.getElem_cons_zero, List.setIfInBounds_toArray, List.set_cons_zero, List.set_cons_succ]
              refine wpAnyT_pure (i := 7) (v := ?_) rfl (by kernel_rfl) (by kernel_rfl) (by kernel_rfl) (fun _ _ _ h => h) (.inl ⟨by kernel_rfl, ?_⟩) (fun _ => hHeld) ?_ (by decide)
              rotate_left
              · intro w9; go_simp; try with_reducible rfl
              try simp only [Act.put, List.getElem_toArray, List.getElem_cons_succ, List.getElem_cons_zero, List.setIfInBounds_toArray, List.set_cons_zero, List.set_cons_succ]
              refine wpAnyT_done (by kernel_rfl) ?_ _
              --n18>
              have TA5 : TAt w5 pa ta := (HTA.out.stays S4.out (HKEY.out wr gs K3.out)).stays S5.out (HKEY.out w4 g1 H4.out)
              have TB5 : TAt w5 pb tb := (H4.out.rt.tr _ HMB.out).stays S5.out (HKEY.out w4 g1 H4.out)
              obtain ⟨sa, qa, ra, xa⟩ := TA5.head
              obtain ⟨sb, qb, rb, xb⟩ := TB5.head
              obtain ⟨ca, hca9⟩ : ∃ ca, hl.cnt ta = ca := ⟨_, rfl⟩
              obtain ⟨cb, hcb9⟩ : ∃ cb, hl.cnt tb = cb := ⟨_, rfl⟩
              obtain ⟨d1, hd19⟩ : ∃ d1, hl.dep ta = d1 := ⟨_, rfl⟩
              obtain ⟨d2, hd29⟩ : ∃ d2, hl.dep tb = d2 := ⟨_, rfl⟩
              rw [hca9, hd19] at xa
              rw [hcb9, hd29] at xb
              rw [hca9] at hca
              rw [hcb9] at hcb
              rw [hd19] at hda
              rw [hd29] at hdb
              have HJ2 : Hid (hl.join pa ta pb tb = .node (ca + cb) pa ta pb tb (max d1 d2 + 1)) := Lib.hid (by rw [HJN.out, hca9, hcb9, hd19, hd29])
              have hwc : IntKind.i64.wrap (ca + cb) = ca + cb := IntWalk.i64_in _ (by omega)
              obtain ⟨dm, hdm⟩ : ∃ dm, (if d1 < d2 then d2 else d1) = dm := ⟨_, rfl⟩
              have hdx : max d1 d2 = dm := by rw [← hdm]; split <;> omega
              have HDX := Lib.hid hdx
              have hwd : IntKind.i64.wrap (dm + 1) = dm + 1 := IntWalk.i64_in _ (by omega)
              rw [hdx] at HJ2
              have XA := Lib.hid xa
              have XB := Lib.hid xb
              have HTN : Hid (∀ wx, Below (w5.alloc (.cells #[.int .i64 (ca + cb), .int .i64 0, .pointer (some ⟨pa, 0, none⟩), .pointer (some ⟨pb, 0, none⟩), .int .i64 (dm + 1)] 55)).heap.size (w5.alloc (.cells #[.int .i64 (ca + cb), .int .i64 0, .pointer (some ⟨pa, 0, none⟩), .pointer (some ⟨pb, 0, none⟩), .int .i64 (dm + 1)] 55)) wx → TAt wx w5.heap.size (hl.join pa ta pb tb)) := Lib.hid (fun wx hb => by
                rw [HJ2.out]
                have h5x : Below w5.heap.size w5 wx := bnext (balloc (bself w5) _) hb
                exact ⟨(BlkA.new w5 _ _).next hb, TA5.next h5x, TB5.next h5x⟩)
              have HSS : Hid (∀ wx, Below w5.heap.size w5 wx → wx.cell? ⟨pa, 0, none⟩ = some (.int .i64 ca) ∧ wx.cell? ⟨pb, 0, none⟩ = some (.int .i64 cb) ∧ wx.cell? ⟨pa, 4, none⟩ = some (.int .i64 d1) ∧ wx.cell? ⟨pb, 4, none⟩ = some (.int .i64 d2)) := Lib.hid (fun wx hb => ⟨(XA.out.next hb).get 0, (XB.out.next hb).get 0, (XA.out.next hb).get 4, (XB.out.next hb).get 4⟩)
              have HPU2 : Hid (∀ wx, Below (w5.alloc (.cells #[.int .i64 (ca + cb), .int .i64 0, .pointer (some ⟨pa, 0, none⟩), .pointer (some ⟨pb, 0, none⟩), .int .i64 (dm + 1)] 55)).heap.size (w5.alloc (.cells #[.int .i64 (ca + cb), .int .i64 0, .pointer (some ⟨pa, 0, none⟩), .pointer (some ⟨pb, 0, none⟩), .int .i64 (dm + 1)] 55)) wx → Calls Try.prog 23 #[.iface 57 (.pointer (some ⟨w.heap.size + 1, 0, none⟩)), .iface 52 (.pointer (some ⟨w5.heap.size, 0, none⟩))] wx fun e w' => e = .returned (.tuple #[]) ∧ ∃ A' c', FAt w' w.heap.size (w.heap.size + 1) A' c' (ho.psh g2 (w5.heap.size, hl.join pa ta pb tb)) ∧ Stays w5 w' (fun k => k = w.heap.size + 1 ∨ blkOf A = some k)) := Lib.hid (fun wx hb => (HPU.out wx w5.heap.size (H5.out.next (bnext (balloc (bself w5) _) hb)) (HTN.out wx hb)).mono (by
                rintro e w' ⟨rfl, A', c', h1, h2, _⟩
                exact ⟨rfl, A', c', h1, (Stays.of_below (bnext (balloc (bself w5) _) hb) _).comp h2⟩))
              have la5 := XA.out.lt
              have lb5 := XB.out.lt
              clear xa xb TA5 TB5 hca9 hcb9 hd19 hd29 HJN hta htb
              go_upto_region 19 with (fail)
              --<n19
              refine wp_region_tail [26] (fun wx => wx.cell? ⟨pa, 0, none⟩ = some (.int .i64 ca) ∧ wx.cell? ⟨pb, 0, none⟩ = some (.int .i64 cb) ∧ wx.cell? ⟨pa, 4, none⟩ = some (.int .i64 d1) ∧ wx.cell? ⟨pb, 4, none⟩ = some (.int .i64 d2)) (by kernel_rfl) (HSS.out w5 (bself _)) ?_
              intro hHeld
              refine wpAnyT_pure (i := 0) (v := ?_) rfl (by kernel_rfl) (by kernel_rfl) (by kernel_rfl) (fun _ _ _ h => h) (.inl ⟨by kernel_rfl, ?_⟩) (fun _ => hHeld) ?_ (by decide)
              rotate_left
              · intro w9; go_simp; try with_reducible rfl
              try simp only [Act.put, List.getElem_toArray, List.getElem_cons_succ, List.getElem_cons_zero, List.setIfInBounds_toArray, List.set_cons_zero, List.set_cons_succ]
              refine wpAnyT_pure (i := 1) (v := ?_) rfl (by kernel_rfl) (by kernel_rfl) (by kernel_rfl) (fun _ _ _ h => h) (.inl ⟨by kernel_rfl, ?_⟩) (fun _ => hHeld) ?_ (by decide)
              rotate_left
              · intro w9; go_simp; try with_reducible rfl
              try simp only [Act.put, List.getElem_toArray, List.getElem_cons_succ, List.getElem_cons_zero, List.setIfInBounds_toArray, List.set_cons_zero, List.set_cons_succ]
              refine wpAnyT_pure (i := 2) (v := ?_) rfl (by kernel_rfl) (by kernel_rfl) (by kernel_rfl) (fun _ _ _ h => h) (.inl ⟨by kernel_rfl, ?_⟩) (fun _ => hHeld) ?_ (by decide)
              rotate_left
              · intro w9; go_simp; try with_reducible rfl
              try simp only [Act.put, List.getElem_toArray, List.getElem_cons_succ, List.getElem_cons_zero, List.setIfInBounds_toArray, List.set_cons_zero, List.set_cons_succ]
              refine wpAnyT_pure (i := 3) (v := ?_) rfl (by kernel_rfl) (by kernel_rfl) (by kernel_rfl) (fun _ _ _ h => h) (.inl ⟨by kernel_rfl, ?_⟩) (fun _ => hHeld) ?_ (by decide)
              rotate_left
              · intro w9; go_simp; try with_reducible rfl
              try simp only [Act.put, List.getElem_toArray, List.getElem_cons_succ, List.getElem_cons_zero, List.setIfInBounds_toArray, List.set_cons_zero, List.set_cons_succ]
              refine wpAnyT_pure (i := 5) (v := ?_) rfl (by kernel_rfl) (by kernel_rfl) (by kernel_rfl) (fun _ _ _ h => h) (.inl ⟨by kernel_rfl, ?_⟩) (fun _ => hHeld) ?_ (by decide)
              rotate_left
              · intro w9; go_simp; try with_reducible rfl
              try simp only [Act.put, List.getElem_toArray, List.getElem_cons_succ, List.getElem_cons_zero, List.setIfInBounds_toArray, List.set_cons_zero, List.set_cons_succ]
              refine wpAnyT_pure (i := 6) (v := ?_) rfl (by kernel_rfl) (by kernel_rfl) (by kernel_rfl) (fun _ _ _ h => h) (.inl ⟨by kernel_rfl, ?_⟩) (fun _ => hHeld) ?_ (by decide)
              rotate_left
              · intro w9; go_simp; try with_reducible rfl
              try simp only [Act.put, List.getElem_toArray, List.getElem_cons_succ, List.getElem_cons_zero, List.setIfInBounds_toArray, List.set_cons_zero, List.set_cons_succ]
              refine wpAnyT_pure (i := 7) (v := ?_) rfl (by kernel_rfl) (by kernel_rfl) (by kernel_rfl) (fun _ _ _ h => h) (.inl ⟨by kernel_rfl, ?_⟩) (fun _ => hHeld) ?_ (by decide)
              rotate_left
              · intro w9; go_simp; try with_reducible rfl
              try simp only [Act.put, List.getElem_toArray, List.getElem_cons_succ, List.getElem_cons_zero, List.setIfInBounds_toArray, List.set_cons_zero, List.set_cons_succ]
              refine wpAnyT_pure (i := 10) (v := ?_) rfl (by kernel_rfl) (by kernel_rfl) (by kernel_rfl) (fun _ _ _ h => h) (.inl ⟨by kernel_rfl, ?_⟩) (fun _ => hHeld) ?_ (by decide)
              rotate_left
              · intro w9; go_simp; try with_reducible rfl
              try simp only [Act.put, List.getElem_toArray, List.getElem_cons_succ, List.getElem_cons_zero, List.setIfInBounds_toArray, List.set_cons_zero, List.set_cons_succ]
              refine wpAnyT_pure (i := 11) (v := ?_) rfl (by kernel_rfl) (by kernel_rfl) (by kernel_rfl) (fun _ _ _ h => h) (.inl ⟨by kernel_rfl, ?_⟩) (fun _ => hHeld) ?_ (by decide)
              rotate_left
              · intro w9; go_simp; try with_reducible rfl
              try simp only [Act.put, List.getElem_toArray, List.getElem_cons_succ, List.getElem_cons_zero, List.setIfInBounds_toArray, List.set_cons_zero, List.set_cons_succ]
              refine wpAnyT_pure (i := 12) (v := ?_) rfl (by kernel_rfl) (by kernel_rfl) (by kernel_rfl) (fun _ _ _ h => h) (.inl ⟨by kernel_rfl, ?_⟩) (fun _ => hHeld) ?_ (by decide)
              rotate_left
              · intro w9; go_simp; try with_reducible rfl
              try simp only [Act.put, List.getElem_toArray, List.getElem_cons_succ, List.getElem_cons_zero, List.setIfInBounds_toArray, List.set_cons_zero, List.set_cons_succ]
              refine wpAnyT_pure (i := 13) (v := ?_) rfl (by kernel_rfl) (by kernel_rfl) (by kernel_rfl) (fun _ _ _ h => h) (.inl ⟨by kernel_rfl, ?_⟩) (fun _ => hHeld) ?_ (by decide)
              rotate_left
              · intro w9; go_simp; try with_reducible rfl
              try simp only [Act.put, List.getElem_toArray, List.getElem_cons_succ, List.getElem_cons_zero, List.setIfInBounds_toArray, List.set_cons_zero, List.set_cons_succ]
              refine wpAnyT_pure (i := 14) (v := ?_) rfl (by kernel_rfl) (by kernel_rfl) (by kernel_rfl) (fun _ _ _ h => h) (.inl ⟨by kernel_rfl, ?_⟩) (fun _ => hHeld) ?_ (by decide)
              rotate_left
              · intro w9; go_simp; try with_reducible rfl
              try simp only [Act.put, List.getElem_toArray, List.getElem_cons_succ, List.getElem_cons_zero, List.setIfInBounds_toArray, List.set_cons_zero, List.set_cons_succ]
              refine wpAnyT_pure (i := 15) (v := ?_) rfl (by kernel_rfl) (by kernel_rfl) (by kernel_rfl) (fun _ _ _ h => h) (.inl ⟨by kernel_rfl, ?_⟩) (fun _ => hHeld) ?_ (by decide)
              rotate_left
              · intro w9; go_simp; try with_reducible rfl
              try simp only [Act.put, List.getElem_toArray, List.getElem_cons_succ, List.getElem_cons_zero, List.setIfInBounds_toArray, List.set_cons_zero, List.set_cons_succ]
              refine wpAnyT_pure (i := 17) (v := ?_) rfl (by kernel_rfl) (by kernel_rfl) (by kernel_rfl) (fun _ _ _ h => h) (.inl ⟨by kernel_rfl, ?_⟩) (fun _ => hHeld) ?_ (by decide)
              rotate_left
              · intro w9; go_simp; try with_reducible rfl
              try simp only [Act.put, List.getElem_toArray, List.getElem_cons_succ, List.getElem_cons_zero, List.setIfInBounds_toArray, List.set_cons_zero, List.set_cons_succ]
              refine wpAnyT_pure (i := 18) (v := ?_) rfl (by kernel_rfl) (by kernel_rfl) (by kernel_rfl) (fun _ _ _ h => h) (.inl ⟨by kernel_rfl, ?_⟩) (fun _ => hHeld) ?_ (by decide)
              rotate_left
              · intro w9; go_simp; try with_reducible rfl
              try simp only [Act.put, List.getElem_toArray, List.getElem_cons_succ, List.getElem_cons_zero, List.setIfInBounds_toArray, List.set_cons_zero, List.set_cons_succ]
              refine wpAnyT_pure (i := 19) (v := ?_) rfl (by kernel_rfl) (by kernel_rfl) (by kernel_rfl) (fun _ _ _ h => h) (.inl ⟨by kernel_rfl, ?_⟩) (fun _ => hHeld) ?_ (by decide)
              rotate_left
              · intro w9; go_simp; try with_reducible rfl
              try simp only [Act.put, List.getElem_toArray, List.getElem_cons_succ, List.getElem_cons_zero, List.setIfInBounds_toArray, List.set_cons_zero, List.set_cons_succ]
              refine wpAnyT_take (i := 4) [9, 23, 24, 25, 26] (v := ?_) rfl (by kernel_rfl) (by kernel_rfl) (by kernel_rfl) (by kernel_rfl) (fun _ _ _ h => h) (.inl ⟨by kernel_rfl, ?_⟩) hHeld ?_
              rotate_left
              · intro w9 hS9; (try dsimp only at hS9); obtain ⟨q1, q2, q3, q4⟩ := hS9; go_simp; try with_reducible rfl
              try simp only [Act.put, List.getElem_toArray, List.getElem_cons_succ, List.getElem_cons_zero, List.setIfInBounds_toArray, List.set_cons_zero, List.set_cons_succ]
              refine wpAnyT_take (i := 8) [9, 23, 24, 25, 26] (v := ?_) rfl (by kernel_rfl) (by kernel_rfl) (by kernel_rfl) (by kernel_rfl) (fun _ _ _ h => h) (.inl ⟨by kernel_rfl, ?_⟩) hHeld ?_
              rotate_left
              · intro w9 hS9; (try dsimp only at hS9); obtain ⟨q1, q2, q3, q4⟩ := hS9; go_simp; try with_reducible rfl
              try simp only [Act.put, List.getElem_toArray, List.getElem_cons_succ, List.getElem_cons_zero, List.setIfInBounds_toArray, List.set_cons_zero, List.set_cons_succ]
              refine wpAnyT_pure (i := 9) (v := ?_) rfl (by kernel_rfl) (by kernel_rfl) (by kernel_rfl) (fun _ _ _ h => h) (.inl ⟨by kernel_rfl, ?_⟩) (fun _ => hHeld) ?_ (by decide)
              rotate_left
              · intro w9; go_simp; try with_reducible rfl
              try simp only [Act.put, List.getElem_toArray, List.getElem_cons_succ, List.getElem_cons_zero, List.setIfInBounds_toArray, List.set_cons_zero, List.set_cons_succ]
              refine wpAnyT_take (i := 16) [21, 22, 23, 24, 25, 26] (v := ?_) rfl (by kernel_rfl) (by kernel_rfl) (by kernel_rfl) (by kernel_rfl) (fun _ _ _ h => h) (.inl ⟨by kernel_rfl, ?_⟩) hHeld ?_
              rotate_left
              · intro w9 hS9; (try dsimp only at hS9); obtain ⟨q1, q2, q3, q4⟩ := hS9; go_simp; try with_reducible rfl
              try simp only [Act.put, List.getElem_toArray, List.getElem_cons_succ, List.getElem_cons_zero, List.setIfInBounds_toArray, List.set_cons_zero, List.set_cons_succ]
              refine wpAnyT_take (i := 20) [21, 22, 23, 24, 25, 26] (v := ?_) rfl (by kernel_rfl) (by kernel_rfl) (by kernel_rfl) (by kernel_rfl) (fun _ _ _ h => h) (.inl ⟨by kernel_rfl, ?_⟩) hHeld ?_
              rotate_left
              · intro w9 hS9; (try dsimp only at hS9); obtain ⟨q1, q2, q3, q4⟩ := hS9; go_simp; try with_reducible rfl
              try simp only [Act.put, List.getElem_toArray, List.getElem_cons_succ, List.getElem_cons_zero, List.setIfInBounds_toArray, List.set_cons_zero, List.set_cons_succ]
              refine wpAnyT_pure (i := 21) (v := ?_) rfl (by kernel_rfl) (by kernel_rfl) (by kernel_rfl) (fun _ _ _ h => h) (.inl ⟨by kernel_rfl, ?_⟩) (fun _ => hHeld) ?_ (by decide)
              rotate_left
              · intro w9; go_simp; try with_reducible rfl
              try simp only [Act.put, List.getElem_toArray, List.getElem_cons_succ, List.getElem_cons_zero, List.setIfInBounds_toArray, List.set_cons_zero, List.set_cons_succ]
              refine wpAnyT_pure (i := 22) (v := ?_) rfl (by kernel_rfl) (by kernel_rfl) (by kernel_rfl) (fun _ _ _ h => h) (.inl ⟨by kernel_rfl, ?_⟩) (fun _ => hHeld) ?_ (by decide)
              rotate_left
              · intro w9; go_simp; try with_reducible rfl
              try simp only [Act.put, List.getElem_toArray, List.getElem_cons_succ, List.getElem_cons_zero, List.setIfInBounds_toArray, List.set_cons_zero, List.set_cons_succ]
              refine wpAnyT_pure (i := 23) (v := ?_) rfl (by kernel_rfl) (by kernel_rfl) (by kernel_rfl) (fun _ _ _ h => h) (.inl ⟨by kernel_rfl, ?_⟩) (fun _ => hHeld) ?_ (by decide)
              rotate_left
              · intro w9; go_simp; try with_reducible rfl
              try simp only [Act.put, List.getElem_toArray, List.getElem_cons_succ, List.getElem_cons_zero, List.setIfInBounds_toArray, List.set_cons_zero, List.set_cons_succ]
              refine wpAnyT_next (i := 24) (by kernel_rfl) rfl ?_
              intro K hK
              go_simp
              refine hK.out _ _ (fun _ => (HSS.out _ (by exact (by repeat (first | (with_reducible exact Below.refl _ _) | (with_reducible assumption) | (with_reducible refine bset ?_ ?_ _) | (with_reducible refine balloc ?_ _) | (with_reducible refine Below.drew ?_) | (with_reducible refine bdrewN ?_ _) | (with_reducible refine bnext ?_ (by with_reducible assumption)) | exact Nat.le_refl _ | (simp; done) | omega | (simp; omega)))))) ?_
              clear hK K
              try simp only [Act.put, List.getElem_toArray, List.getElem_cons_succ, List.getElem_cons_zero, List.setIfInBounds_toArray, List.set_cons_zero, List.set_cons_succ]
              refine wpAnyT_pure (i := 25) (v := ?_) rfl (by kernel_rfl) (by kernel_rfl) (by kernel_rfl) (fun _ _ _ h => h) (.inl ⟨by kernel_rfl, ?_⟩) (fun _ => (HSS.out _ (by exact (by repeat (first | (with_reducible exact Below.refl _ _) | (with_reducible assumption) | (with_reducible refine bset ?_ ?_ _) | (with_reducible refine balloc ?_ _) | (with_reducible refine Below.drew ?_) | (with_reducible refine bdrewN ?_ _) | (with_reducible refine bnext ?_ (by with_reducible assumption)) | exact Nat.le_refl _ | (simp; done) | omega | (simp; omega)))))) ?_ (by decide)
              rotate_left
              · intro w9; go_simp; try with_reducible rfl
              try simp only [Act.put, List.getElem_toArray, List.getElem_cons_succ, List.getElem_cons_zero, List.setIfInBounds_toArray, List.set_cons_zero, List.set_cons_succ]
              refine wpAnyT_next (i := 26) (by kernel_rfl) rfl ?_
              intro K hK
              go_simp
              go_at_call 23
              refine (HPU2.out _ (by exact (by repeat (first | (with_reducible exact Below.refl _ _) | (with_reducible assumption) | (with_reducible refine bset ?_ ?_ _) | (with_reducible refine balloc ?_ _) | (with_reducible refine Below.drew ?_) | (with_reducible refine bdrewN ?_ _) | (with_reducible refine bnext ?_ (by with_reducible assumption)) | exact Nat.le_refl _ | (simp; done) | omega | (simp; omega))))).mono ?_
              rintro e w7 ⟨rfl, A7, c7, h7, s7⟩
              have S7 := Lib.hid s7
              have H7 := Lib.hid h7
              clear h7 s7
              go_simp
              refine hK.out _ _ (fun h => absurd ((by kernel_rfl : false = _).trans h) Bool.false_ne_true) ?_
              clear hK K
              try simp only [Act.put, List.getElem_toArray, List.getElem_cons_succ, List.getElem_cons_zero, List.setIfInBounds_toArray, List.set_cons_zero, List.set_cons_succ]
              refine wpAnyT_done (by kernel_rfl) ?_ _
              --n19>
              have hK7 : Below w.heap.size w w7 := K5.out.trans (((S4.out.comp S5.out).comp S7.out).below K5.out.size (fun q hq => by
                rcases hq with e | e
                · omega
                · exact (K3.out.rt.row.lt q e).1))
              have HK7 := Lib.hid hK7
              clear hK7 HSS
              go_wp2
              go_roundw
              case rel => exact ⟨A7, c7, _, Lib.hid ⟨HST1.out _, H7.out, K4.out.out K3.out (by omega) ((S4.out.comp S5.out).comp S7.out), HK7.out⟩⟩
              case measure =>
                have h7 := H7.out.box.get 0
                simp only [List.getElem?_toArray, List.getElem?_cons_zero] at h7
                have hl7 := HLN1.out w5.heap.size
                rw [h7, f0]
                simp only
                omega
            · have h2' : ¬ (1 : Int) < (gs.length : Int) := by omega
              cases gs with
              | nil =>
                have hpn : hl.pos counts = [] := List.nil_perm.1 (by simpa using k0.fi.syms)
                have hb0 : hl.best counts = 0 := by rw [HBE.out, hpn]; rfl
                have HFI : Hid (LenPost counts w (.returned (.tuple #[.slice (some ⟨w.heap.size, 0, none⟩) k k, .int .i64 0])) wr) := Lib.hid (HFIN.out _ _ (List.replicate k 0) k5 (by
                  have hg := hl.good_none hpn (by omega)
                  rw [hb0]
                  rw [HN.out] at hg
                  exact hg) k4)
                simp only [List.length_nil] at f0
                clear k0 k3 k4 k5 HK hpn hb0
                go_wp2
                go_loopw [91] (fun i wx => i = .int .i64 0 ∧ wr = wx) (fun _ _ => 0)
                case atStart => exact ⟨rfl, rfl⟩
                case round =>
                  obtain ⟨rfl, rfl⟩ := hrel
                  go_wp2
                  go_ret2
                  exact HFI.out
              | cons x rest =>
                obtain rfl : rest = [] := by
                  cases rest with
                  | nil => rfl
                  | cons y r => simp only [List.length_cons] at h2; omega
                obtain ⟨p, t⟩ := x
                have hfi : hl.FI counts [t] := k0.fi
                have hd := k0.one rfl (p, t) (by simp)
                obtain ⟨hgood, hdep⟩ := hl.good_tree hfi (by omega) HR.out hd
                rw [HN.out, ← HBE.out] at hgood
                have hwf := hfi.wf t (by simp)
                have htt : TAt wr p t := k3.rt.tr (p, t) (by simp)
                have hfits : ho.Fits k t := fun s hs => by have := hwf.syms s hs; have := HN.out; omega
                have hdp0 := hwf.dep0
                have hOA : ∀ q cs, BlkA wr q 55 cs → ¬ q = w.heap.size := fun q cs hb e => by
                  subst e
                  exact hb.apart k4 intNeTree rfl
                have HTL : Hid (∀ wx, Stays wr wx (fun q => q = w.heap.size) → Own wx w.heap.size 3 1 (some ⟨w.heap.size, 0, none⟩) k k (ho.iv (List.replicate k 0)) → Calls Try.prog 24 #[.pointer (some ⟨p, 0, none⟩), .slice (some ⟨w.heap.size, 0, none⟩) k k, .int .i64 0] wx fun e w' => e = .returned (.tuple #[]) ∧ Own w' w.heap.size 3 1 (some ⟨w.heap.size, 0, none⟩) k k (ho.iv (hl.lay t 0 (List.replicate k 0))) ∧ Stays wx w' (fun q => q = w.heap.size)) := Lib.hid (fun wx hs ho_ => tree_lengths w.heap.size k w.heap.size k t p (List.replicate k 0) 0 wx (TAt.stays hs hOA htt) ho_ hfits (Int.le_refl _) (by omega) ⟨counts, hwf⟩)
                obtain ⟨g, rfl, _, lg, a0⟩ := k3.rt.at_ (i := 0) (by simp)
                simp only [List.getD_cons_zero] at a0
                simp only [List.length_cons, List.length_nil] at f0
                have hgo : g ≠ w.heap.size := fun e => by
                  rcases Own.two k4 k3.rt.row (by decide) with h1 | h1
                  · cases h1
                  · exact h1 (by rw [e])
                have HA0 : Hid (∀ wx, Stays wr wx (fun q => q = w.heap.size) → wx.cell? ⟨g, 0, none⟩ = some (.pointer (some ⟨p, 0, none⟩))) := Lib.hid (fun wx hs => by
                  have hr := k3.rt.row.stays hs (fun q hq e => hgo (by have hq' : g = q := by simpa [blkOf] using hq
                                                                       rw [hq', e]))
                  obtain ⟨g2, e2, _, _, h9⟩ := hr.cell (j := 0) (u := .pointer (some ⟨p, 0, none⟩)) rfl
                  simp only [Option.some.injEq, Addr.mk.injEq, and_true] at e2
                  rw [e2]
                  exact h9)
                have HFI : Hid (∀ wx, Stays wr wx (fun q => q = w.heap.size) → Own wx w.heap.size 3 1 (some ⟨w.heap.size, 0, none⟩) k k (ho.iv (hl.lay t 0 (List.replicate k 0))) → LenPost counts w (.returned (.tuple #[.slice (some ⟨w.heap.size, 0, none⟩) k k, .int .i64 0])) wx) := Lib.hid (fun wx hs ho_ => HFIN.out _ _ (hl.lay t 0 (List.replicate k 0)) (k5.trans (hs.below k5.size (fun q hq => by omega))) hgood ho_)
                have H0 : Hid (Own wr w.heap.size 3 1 (some ⟨w.heap.size, 0, none⟩) k k (ho.iv (ho.stg (List.replicate k 0) (hl.lay t 0 (List.replicate k 0)) [] 0)) ∧ Stays wr wr (fun q => q = w.heap.size)) := Lib.hid ⟨k4, Stays.refl _ _⟩
                clear k0 k3 k4 k5 HK hfi hd hgood hdep hwf htt hfits hdp0 hOA hgo
                go_wp2
                go_loopw [91] (fun i wx => ∃ j : Nat, j ≤ 1 ∧ i = .int .i64 (j : Int) ∧ Hid (Own wx w.heap.size 3 1 (some ⟨w.heap.size, 0, none⟩) k k (ho.iv (ho.stg (List.replicate k 0) (hl.lay t 0 (List.replicate k 0)) [] j)) ∧ Stays wr wx (fun q => q = w.heap.size))) (fun i _ => 1 - (intOf i).toNat)
                case atStart => exact ⟨0, by omega, rfl, H0⟩
                case round =>
                  obtain ⟨j, hj, rfl, HJ⟩ := hrel
                  rename World => wx
                  obtain ⟨j4, j5⟩ := HJ.out
                  have hj2 : j = 0 ∨ j = 1 := by omega
                  rcases hj2 with rfl | rfl
                  · have HC := Lib.hid (HTL.out wx j5 j4)
                    have a1 := HA0.out wx j5
                    have J5 := Lib.hid j5
                    clear j4 j5 HJ
                    go_wp2_with (first
                      | (go_at_call 24; ((with_reducible refine HC.out.mono ?_); rintro e w9 ⟨rfl, h9, s9⟩; have H9 := Lib.hid h9; have S9 := Lib.hid s9; clear h9 s9))
                      | fail)
                    go_roundw
                    case rel => exact ⟨1, by omega, rfl, Lib.hid ⟨H9.out, J5.out.comp S9.out⟩⟩
                    case measure => simp [intOf]
                  · have HF := Lib.hid (HFI.out wx j5 j4)
                    clear j4 j5 HJ
                    go_wp2
                    go_ret2
                    exact HF.out
end Go.Proofs.Ytkbmpppendelcaa
