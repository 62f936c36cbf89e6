/- Texts in one: SendR3, SendR4, SendR5. No condition. -/
import Derived.Test.YtdldfllllgogoaaSendM8
namespace Go.Proofs.Ytdldfllllgogoaa
open Go.RowKit
set_option linter.unusedSimpArgs false

/-- the reference's outlet is like this sender -/
structure OS (w : World) (B G : Nat) (s : sd.St) (kl : List Bool) (todo : Int) (D : Option Addr) (dc : Nat) (K : Option Addr) (kc : Nat) : Prop where
  at_ : OAt w B G s.data s.closed s.edge s.next kl todo D dc K kc
  knows : sd.Knows kl s.done s.more
  len : (kl.length : Int) ≤ s.next
  todo : 0 ≤ todo ∧ todo ≤ s.again ∧ ∀ x, todo ≤ x → x < s.again → sd.heardP s x
theorem OS.next {w w' : World} {B G : Nat} {s : sd.St} {kl : List Bool} {todo : Int} {D : Option Addr} {dc : Nat} {K : Option Addr} {kc : Nat} (h : OS w B G s kl todo D dc K kc) (hb : Below w.heap.size w w') : OS w' B G s kl todo D dc K kc := ⟨h.at_.next hb, h.knows, h.len, h.todo⟩
def OF (G : Nat) (D K : Option Addr) (k : Nat) : Prop := k = G ∨ blkOf D = some k ∨ blkOf K = some k
def HrsRes (w : World) (B G : Nat) (r : Int × sd.St) (D : Option Addr) (dc : Nat) (K : Option Addr) (todo : Int) (e : Ending) (w' : World) : Prop :=
  ∃ kl K1 kc1, e = .returned (.int .i64 r.1) ∧ OS w' B G r.2 kl todo D dc K1 kc1 ∧ Stays w w' (fun k => k = G) ∧ ∀ k, blkOf K1 = some k → blkOf K = some k ∨ w.heap.size ≤ k
theorem HrsRes.no {w w' : World} {B G : Nat} {s : sd.St} {kl : List Bool} {todo : Int} {D : Option Addr} {dc : Nat} {K : Option Addr} {kc : Nat} {r : Int × sd.St} {c : Int} (h : OS w B G s kl todo D dc K kc) (hr : r = (c, s)) (hb : Below w.heap.size w w') : HrsRes w B G r D dc K todo (.returned (.int .i64 c)) w' := by
  subst hr
  exact ⟨kl, K, kc, rfl, h.next hb, Stays.of_below hb _, fun k hk => .inl hk⟩
set_option maxRecDepth 100000 in
set_option maxHeartbeats 4000000 in
theorem ref_hears (B G : Nat) (s : sd.St) (kl : List Bool) (todo : Int) (D : Option Addr) (dc : Nat) (K : Option Addr) (kc : Nat) (d : Deed) (X : Option Addr) (xc : Nat) (R : Option Addr) (rc : Nat) (w : World) (h : OS w B G s kl todo D dc K kc) (hi : sd.Inv s) (hR : SlRep Rng.rep w (· < w.heap.size) d.sacks R rc) (ha : IntOk d.ack) (hwn : IntOk d.window) (hd : d.sacks.length ≤ 140737488351232) :
    Calls Try.prog 51 #[.pointer (some ⟨G, 0, none⟩), .agg #[.int .i64 d.kind, .slice X d.data.length xc, .int .i64 d.ack, .int .i64 d.window, .slice R d.sacks.length rc]] w (HrsRes w B G (sd.heard s d) D dc K todo) := by
  obtain ⟨dk, dd, da, dw, ds⟩ := d
  simp only at hR ha hwn hd ⊢
  unfold IntOk at ha hwn
  have H := Lib.hid h
  have HI := Lib.hid hi
  have HR := Lib.hid hR
  have hlo := hi.lo
  have hen := hi.end_
  have hed := hi.edge
  have hF := h.at_.blk.lt
  have c3 := h.at_.blk.get 3
  simp only [List.getElem?_toArray, List.getElem?_cons_succ, List.getElem?_cons_zero] at c3
  have HNO := Lib.hid (fun (c : Int) (hc : sd.heard s ⟨dk, dd, da, dw, ds⟩ = (c, s)) w' (hb : Below w.heap.size w w') => (HrsRes.no h hc hb : HrsRes w B G (sd.heard s ⟨dk, dd, da, dw, ds⟩) D dc K todo (.returned (.int .i64 c)) w'))
  clear h hi hR
  by_cases k1 : da < 0
  · have HE := Lib.hid (sd.heard_range (s := s) (d := ⟨dk, dd, da, dw, ds⟩) (.inl k1))
    go_enter Try.func51, Try.ntmps51
    go_wp2
    go_quiet (fail)
    go_wp2
    go_ret
    exact HNO.out _ HE.out _ (by repeat (first | (with_reducible exact Below.refl _ _) | (with_reducible assumption) | (with_reducible refine bset ?_ ?_ _) | (with_reducible refine balloc ?_ _) | (with_reducible refine Below.drew ?_) | (with_reducible refine bdrewN ?_ _) | (with_reducible refine bnext ?_ (by with_reducible assumption)) | exact Nat.le_refl _ | (simp; done) | omega | (simp; omega)))
  have q1 : decide (da < 0) = false := by simpa using k1
  by_cases k2 : s.next < da
  · have HE := Lib.hid (sd.heard_range (s := s) (d := ⟨dk, dd, da, dw, ds⟩) (.inr (.inl k2)))
    have q2 : decide (s.next < da) = true := by simpa using k2
    go_enter Try.func51, Try.ntmps51
    go_wp2
    go_quiet (fail)
    go_wp2
    go_ret
    exact HNO.out _ HE.out _ (by repeat (first | (with_reducible exact Below.refl _ _) | (with_reducible assumption) | (with_reducible refine bset ?_ ?_ _) | (with_reducible refine balloc ?_ _) | (with_reducible refine Below.drew ?_) | (with_reducible refine bdrewN ?_ _) | (with_reducible refine bnext ?_ (by with_reducible assumption)) | exact Nat.le_refl _ | (simp; done) | omega | (simp; omega)))
  have q2 : decide (s.next < da) = false := by simpa using k2
  by_cases k3 : dw < 0
  · have HE := Lib.hid (sd.heard_range (s := s) (d := ⟨dk, dd, da, dw, ds⟩) (.inr (.inr (.inl k3))))
    have q3 : decide (dw < 0) = true := by simpa using k3
    go_enter Try.func51, Try.ntmps51
    go_wp2
    go_quiet (fail)
    go_wp2
    go_ret
    exact HNO.out _ HE.out _ (by repeat (first | (with_reducible exact Below.refl _ _) | (with_reducible assumption) | (with_reducible refine bset ?_ ?_ _) | (with_reducible refine balloc ?_ _) | (with_reducible refine Below.drew ?_) | (with_reducible refine bdrewN ?_ _) | (with_reducible refine bnext ?_ (by with_reducible assumption)) | exact Nat.le_refl _ | (simp; done) | omega | (simp; omega)))
  have q3 : decide (dw < 0) = false := by simpa using k3
  by_cases k4 : 65535 < dw
  · have HE := Lib.hid (sd.heard_range (s := s) (d := ⟨dk, dd, da, dw, ds⟩) (.inr (.inr (.inr k4))))
    have q4 : decide (65535 < dw) = true := by simpa using k4
    go_enter Try.func51, Try.ntmps51
    go_wp2
    go_quiet (fail)
    go_wp2
    go_ret
    exact HNO.out _ HE.out _ (by repeat (first | (with_reducible exact Below.refl _ _) | (with_reducible assumption) | (with_reducible refine bset ?_ ?_ _) | (with_reducible refine balloc ?_ _) | (with_reducible refine Below.drew ?_) | (with_reducible refine bdrewN ?_ _) | (with_reducible refine bnext ?_ (by with_reducible assumption)) | exact Nat.le_refl _ | (simp; done) | omega | (simp; omega)))
  have q4 : decide (65535 < dw) = false := by simpa using k4
  have HN4 : Hid (¬ (da < 0 ∨ s.next < da ∨ dw < 0 ∨ 65535 < dw)) := Lib.hid (by omega)
  by_cases k5 : 3 < ds.length
  · have HE := Lib.hid (sd.heard_size (s := s) (d := ⟨dk, dd, da, dw, ds⟩) HN4.out k5)
    have q5 : (3 : Int) < (ds.length : Int) := by omega
    go_enter Try.func51, Try.ntmps51
    go_wp2
    go_quiet (fail)
    go_wp2
    go_ret
    exact HNO.out _ HE.out _ (by repeat (first | (with_reducible exact Below.refl _ _) | (with_reducible assumption) | (with_reducible refine bset ?_ ?_ _) | (with_reducible refine balloc ?_ _) | (with_reducible refine Below.drew ?_) | (with_reducible refine bdrewN ?_ _) | (with_reducible refine bnext ?_ (by with_reducible assumption)) | exact Nat.le_refl _ | (simp; done) | omega | (simp; omega)))
  have q5 : ¬ (3 : Int) < (ds.length : Int) := by omega
  obtain ⟨w1, hw1⟩ : ∃ w1, w1 = w.alloc (.cells #[.int .i64 dk, .slice X dd.length xc, .int .i64 da, .int .i64 dw, .slice R ds.length rc] 82) := ⟨_, rfl⟩
  have HB1 : Hid (Below w.heap.size w w1) := Lib.hid (by rw [hw1]; exact balloc (bself w) _)
  have HD1 : Hid (BlkA w1 w.heap.size 82 #[.int .i64 dk, .slice X dd.length xc, .int .i64 da, .int .i64 dw, .slice R ds.length rc]) := Lib.hid (by rw [hw1]; exact BlkA.new _ _ _)
  have g2 := HD1.out.get 2
  have g3 := HD1.out.get 3
  have g4 := HD1.out.get 4
  simp only [List.getElem?_toArray, List.getElem?_cons_succ, List.getElem?_cons_zero] at g2 g3 g4
  have c3 := (HB1.out.cell (p := ⟨G, 3, none⟩) hF).trans c3
  have hF1 : G < w1.heap.size := Nat.lt_of_lt_of_le hF HB1.out.size
  have l1 := HD1.out.lt
  go_enter Try.func51, Try.ntmps51
  go_upto_region 1 with (fail)
  rw [← hw1]
  clear hw1
  go_cut [32] (fun s32 wx => s32 = .bool false ∧ Hid (Below w1.heap.size w1 wx))
  case first =>
    go_quiet (fail)
    go_wp2
    go_meet
    exact ⟨rfl, Lib.hid (by repeat (first | (with_reducible exact Below.refl _ _) | (with_reducible assumption) | (with_reducible refine bset ?_ ?_ _) | (with_reducible refine balloc ?_ _) | (with_reducible refine Below.drew ?_) | (with_reducible refine bdrewN ?_ _) | (with_reducible refine bnext ?_ (by with_reducible assumption)) | exact Nat.le_refl _ | (simp; done) | omega | (simp; omega)))⟩
  case rest =>
    obtain ⟨rfl, HB2⟩ := hcut
    rename World => w2
    have hb2 : Below w.heap.size w w2 := HB1.out.trans (HB2.out.mono HB1.out.size)
    have HB02 := Lib.hid hb2
    have HD2 := Lib.hid (HD1.out.next HB2.out)
    have g4 := HD2.out.get 4
    simp only [List.getElem?_toArray, List.getElem?_cons_succ, List.getElem?_cons_zero] at g4
    have l2 := HD2.out.lt
    have HC3 := Lib.hid c3
    clear g2 g3 c3 hb2 q1 q2 q3 q4
    go_wp2
    go_loopw [40] (fun i wr => ∃ k : Nat, k ≤ ds.length ∧ i = .int .i64 k ∧ Hid (Below w2.heap.size w2 wr ∧ ∀ j, j < k → sd.oddB s.next (ds.getD j Rng.z) = false)) (fun i _ => ds.length - (intOf i).toNat)
    case atStart => exact ⟨0, by omega, rfl, Lib.hid ⟨bself _, fun j hj => by omega⟩⟩
    case round =>
      obtain ⟨k, hk, rfl, HK⟩ := hrel
      rename World => wr
      have hB0 : Below w.heap.size w wr := HB02.out.trans (HK.out.1.mono HB02.out.size)
      by_cases hlt : k < ds.length
      · obtain ⟨g, o, rfl, hg, e0, e1⟩ := Rng.cells_at Rng.z (HR.out.below hB0) hlt
        have hlt' : (k : Int) < (ds.length : Int) := by omega
        have hgr : g < wr.heap.size := Nat.lt_of_lt_of_le hg hB0.size
        have c3 := ((HB2.out.trans (HK.out.1.mono HB2.out.size)).cell (p := ⟨G, 3, none⟩) hF1).trans HC3.out
        have hGr : G < wr.heap.size := Nat.lt_of_lt_of_le hF hB0.size
        have HYES : Hid (sd.oddB s.next (ds.getD k Rng.z) = true → sd.heard s ⟨dk, dd, da, dw, ds⟩ = (2, s)) := Lib.hid (fun h => sd.heard_odd HN4.out k5 (sd.any_at hlt h))
        have HNOT : Hid (sd.oddB s.next (ds.getD k Rng.z) = false → ∀ j, j < k + 1 → sd.oddB s.next (ds.getD j Rng.z) = false) := Lib.hid (fun h j hj => by
          rcases Nat.lt_or_ge j k with h' | h'
          · exact HK.out.2 j h'
          · obtain rfl : j = k := by omega
            exact h)
        generalize ds.getD k Rng.z = r at *
        have HB0 := Lib.hid hB0
        have HKB := Lib.hid HK.out.1
        obtain ⟨x, y⟩ := r
        dsimp only at e0 e1
        clear HK hB0
        by_cases c1 : x < 0
        · have HE := Lib.hid (HYES.out (by unfold sd.oddB sd.odd; simp [c1]))
          go_wp2
          go_quiet (fail)
          go_wp2
          go_ret
          exact HNO.out _ HE.out _ (bdrewN (balloc HB0.out _) _)
        have q1 : decide (x < 0) = false := by simpa using c1
        by_cases c2 : y ≤ x
        · have HE := Lib.hid (HYES.out (by unfold sd.oddB sd.odd; simp [c2]))
          have q2 : decide (y ≤ x) = true := by simpa using c2
          go_wp2
          go_quiet (fail)
          go_wp2
          go_ret
          exact HNO.out _ HE.out _ (bdrewN (balloc HB0.out _) _)
        have q2 : decide (y ≤ x) = false := by simpa using c2
        by_cases c4 : s.next < y
        · have HE := Lib.hid (HYES.out (by unfold sd.oddB sd.odd; simp [c4]))
          have q3 : decide (s.next < y) = true := by simpa using c4
          go_wp2
          go_quiet (fail)
          go_wp2
          go_ret
          exact HNO.out _ HE.out _ (bdrewN (balloc HB0.out _) _)
        have q3 : decide (s.next < y) = false := by simpa using c4
        have HR2 := Lib.hid (HNOT.out (decide_eq_false (fun e => by unfold sd.odd at e; simp only at e; omega)))
        go_wp2
        go_quiet (fail)
        go_wp2
        go_roundw
        case rel => exact ⟨k + 1, by omega, by go_num, Lib.hid ⟨bdrewN (balloc HKB.out _) _, HR2.out⟩⟩
        case measure => simp [intOf]; omega
      · obtain rfl : k = ds.length := by omega
        have hany : sd.anyB ds s.next = false := sd.any_no HK.out.2
        have HE := Lib.hid (sd.heard_adds (s := s) (d := ⟨dk, dd, da, dw, ds⟩) HN4.out k5 hany)
        have HOD := Lib.hid (sd.not_odd hany)
        clear hany
        have hbr : Below w.heap.size w wr := HB02.out.trans (HK.out.1.mono HB02.out.size)
        have HBR := Lib.hid hbr
        have HHR := Lib.hid (H.out.next hbr)
        have HDR := Lib.hid (HD2.out.next HK.out.1)
        obtain ⟨n, hn⟩ : ∃ n : Nat, s.next = n := ⟨s.next.toNat, by omega⟩
        have HN := Lib.hid hn
        have hkl : kl.length ≤ n := by have := HHR.out.len; omega
        have hn2 : n ≤ 1048576 := by omega
        have c3 := HHR.out.at_.blk.get 3
        have c4 := HHR.out.at_.blk.get 4
        have g2 := HDR.out.get 2
        have g4 := HDR.out.get 4
        simp only [List.getElem?_toArray, List.getElem?_cons_succ, List.getElem?_cons_zero] at c3 c4 g2 g4
        rw [hn] at c3
        have hGr := HHR.out.at_.blk.lt
        have l1 := HDR.out.lt
        have hmk := make_row (P := Try.prog) (i := Try.t4) (z := .bool false) Try.underlying116 (by kernel_rfl) (by kernel_rfl) rfl rfl n (n : Int) rfl (by show 1 * _ ≤ _; omega) (by omega)
        have hda : 0 ≤ da ∧ da ≤ n := by omega
        clear hn k1 k2 k3 k4 k5 HK hlo hen hed
        go_upto_region 12 with (fail)
        generalize hw3 : World.alloc wr _ = w3
        have hw3' : w3 = wr.alloc (.cells (List.replicate n (Value.bool false)).toArray 4) := by rw [← hw3]; simp
        clear hw3 hmk
        have hb3 : Below wr.heap.size wr w3 := by rw [hw3']; exact balloc (bself wr) _
        have hz3 : w3.heap.size = wr.heap.size + 1 := by rw [hw3']; simp
        have HO3 : Hid (Own w3 wr.heap.size 4 1 (some ⟨wr.heap.size, 0, none⟩) n n (List.replicate n (Value.bool false))) := Lib.hid (by rw [hw3']; exact Own.lit wr _ _ 1 n _ (Nat.le_refl _) (by simp) (by unfold maxLen; omega))
        have c4 := (hb3.cell (p := ⟨G, 4, none⟩) hGr).trans c4
        have hG3 : G < w3.heap.size := by omega
        have HCK : Hid (Cells w3 K (kl.map sd.bv)) := Lib.hid (HHR.out.at_.known.next hb3).cells
        have HB3 := Lib.hid hb3
        have HZ3 := Lib.hid hz3
        clear hw3' hb3 c3 hz3
        obtain ⟨w4, hcp, ho4, hg4⟩ := run_copy0 (P := Try.prog) w3 116 116 3 elemBool wr.heap.size wr.heap.size n n _ HO3.out K kl.length kc (kl.map sd.bv) (by simp) hkl HCK.out (one_bools _)
        have HO4 := Lib.hid ho4
        have HG4 := Lib.hid hg4
        clear ho4 hg4
        go_upto_region 13 with (fail)
        clear hcp
        have hs34 : w3.heap.size ≤ w4.heap.size := HG4.out.grown.size
        have hz3 := HZ3.out
        have hb4 : Below wr.heap.size wr w4 := HB3.out.trans (HG4.out.below (by omega) (fun k hk => by cases hk; exact Nat.le_refl _))
        have g2 := (hb4.cell (p := ⟨w.heap.size, 2, none⟩) l1).trans g2
        have g4 := (hb4.cell (p := ⟨w.heap.size, 4, none⟩) l1).trans g4
        have l4 : w.heap.size < w4.heap.size := by omega
        have hr4 : wr.heap.size < w4.heap.size := by omega
        obtain ⟨kl1, hkl1⟩ : ∃ kl1, kl1 = kl ++ List.replicate (n - kl.length) false := ⟨_, rfl⟩
        have HO5 : Hid (Own w4 wr.heap.size 4 1 (some ⟨wr.heap.size, 0, none⟩) n n (kl1.map sd.bv)) := Lib.hid (by rw [hkl1, ← sd.pad_map kl n hkl]; exact HO4.out)
        have HKN : Hid (sd.Knows kl1 s.done s.more) := Lib.hid (by rw [hkl1]; exact HHR.out.knows.pad _)
        have HK1 : Hid (kl1.length = n) := Lib.hid (by rw [hkl1, List.length_append, List.length_replicate]; omega)
        have HB4 := Lib.hid hb4
        have hb04 : Below w.heap.size w w4 := HBR.out.trans (hb4.mono HBR.out.size)
        have HB04 := Lib.hid hb04
        have HCL : Hid (∀ W, Below w4.heap.size w4 W → Cells W R (ds.flatMap Rng.cells)) := Lib.hid fun W hW => ((HR.out.next hb04).next hW).cells_flat Rng.cells rfl (fun a cs h => Rng.rep_iff.1 h) (fun _ => rfl) (by decide)
        have HLN : Hid ((ds.flatMap Rng.cells).length = ds.length * 2) := Lib.hid (flatMap_len Rng.cells 2 (fun _ => rfl) ds)
        clear hkl1 HO4 HG4 hb4 hb04 c4 hz3 hs34 hG3 HO3
        go_wp2_with (first
          | (at_builtin; refine wp_app _ rfl _ _ _ rfl elemRng w4.heap.size (some ⟨w4.heap.size, 0, none⟩) 1 1 [.int .i64 0, .int .i64 da] rfl (Own.lit w4 _ _ 2 1 _ (Nat.le_refl _) rfl (by decide)) R ds.length rc (ds.flatMap Rng.cells) rfl HLN.out (HCL.out _ (balloc (bself w4) _)) (Rng.one ds) (by omega) (by unfold maxLen; omega) (by simp) ?_; intro A5 c5 w5 ho5 hg5; have HO6 := Lib.hid ho5; have HG5 := Lib.hid hg5; clear ho5 hg5)
          | fail)
        generalize hm : 1 + ds.length = m at *
        obtain ⟨al, hal⟩ : ∃ al : List Rng, al = ⟨0, da⟩ :: ds := ⟨_, rfl⟩
        have ham : al.length = m := by rw [hal, List.length_cons]; omega
        have hm4 : m ≤ 4 := by omega
        have HROW : Hid (SlRep Rng.rep w5 (fun k => w4.heap.size ≤ k ∧ k < w5.heap.size) al A5 c5) := Lib.hid (Own.rng (n := m) (by rw [hal, List.flatMap_cons]; exact HO6.out)).2
        have HADD : Hid (sd.heard s ⟨dk, dd, da, dw, ds⟩ = sd.heardOf s (da + dw) (sd.adds s.done s.more al)) := Lib.hid (by rw [HE.out, hal])
        have HBND : Hid (∀ r, r ∈ al → 0 ≤ r.lo ∧ r.lo ≤ r.hi ∧ r.hi ≤ n) := Lib.hid (fun r hr => by
          rw [hal] at hr
          rcases List.mem_cons.1 hr with rfl | hr
          · simp only; omega
          · have h1 := HOD.out r hr
            have h2 := HN.out
            unfold sd.odd at h1
            omega)
        have hb45 : Below w4.heap.size w4 w5 := (balloc (bself w4) _).trans (HG5.out.below (by simp) (fun k hk => by cases hk; exact Nat.le_refl _))
        have HB45 := Lib.hid hb45
        have hs45 := hb45.size
        have HH0 : Hid (sd.Hrs w5 w5 wr.heap.size s al n 0 s.done s.more kl1) := Lib.hid ⟨Stays.refl _ _, by rw [List.drop_zero], ⟨HI.out.lo.1, HI.out.lo.2.1⟩, HI.out.canon, HI.out.hi, HI.out.few, HKN.out, HK1.out, HO5.out.next hb45, fun x hx => hx⟩
        have HAM := Lib.hid ham
        have HM := Lib.hid hm
        clear hal ham hm hb45 g2 g4 HO6 HG5 HE HOD
        go_loopw [83] (fun i wq => ∃ (k : Nat) (d1 : Int) (m1 : List Rng) (klr : List Bool), k ≤ m ∧ i = .int .i64 k ∧ Hid (sd.Hrs w5 wq wr.heap.size s al n k d1 m1 klr)) (fun i _ => m - (intOf i).toNat)
        case atStart => exact ⟨0, s.done, s.more, kl1, by omega, rfl, HH0⟩
        case round =>
          obtain ⟨k, d1, m1, klr, hk, rfl, HA⟩ := hrel
          rename World => wq
          have hs5 : w5.heap.size ≤ wq.heap.size := HA.out.low.size
          by_cases hlt : k < m
          · have hal : k < al.length := by rw [HAM.out]; exact hlt
            obtain ⟨g, o, rfl, hg, e0, e1⟩ := Rng.cells_at Rng.z (HROW.out.keep (S' := (· < wq.heap.size)) fun q hq => ⟨by omega, HA.out.low.block q hq.2 (by omega)⟩) hal
            have hlt' : (k : Int) < 1 + (ds.length : Int) := by have := HM.out; omega
            have hrb := HBND.out (al.getD k Rng.z) (by rw [List.getD_eq_getElem?_getD, List.getElem?_eq_getElem hal]; exact List.getElem_mem hal)
            have HDR2 : Hid (al.drop k = al.getD k Rng.z :: al.drop (k + 1)) := Lib.hid (by rw [drop_getD al Rng.z hal])
            generalize al.getD k Rng.z = r at *
            obtain ⟨x, y⟩ := r
            dsimp only at e0 e1 hrb
            obtain ⟨lo, rfl⟩ : ∃ lo : Nat, x = lo := ⟨x.toNat, by omega⟩
            obtain ⟨hi, rfl⟩ : ∃ hi : Nat, y = hi := ⟨y.toNat, by omega⟩
            have hlh : lo ≤ hi ∧ hi ≤ n := by omega
            have hdr := HA.out
            obtain ⟨w6, hw6⟩ : ∃ w6, w6 = wq.alloc (.cells #[.int .i64 (lo : Int), .int .i64 (hi : Int)] 78) := ⟨_, rfl⟩
            have hb6 : Below wq.heap.size wq w6 := by rw [hw6]; exact balloc (bself wq) _
            have HX6 : Hid (BlkA w6 wq.heap.size 78 #[.int .i64 (lo : Int), .int .i64 (hi : Int)]) := Lib.hid (by rw [hw6]; exact BlkA.new _ _ _)
            have HB6 := Lib.hid hb6
            have hz6 : w6.heap.size = wq.heap.size + 1 := by rw [hw6]; simp
            have HZ6 := Lib.hid hz6
            have x0 := HX6.out.get 0
            simp only [List.getElem?_toArray, List.getElem?_cons_succ, List.getElem?_cons_zero] at x0
            have l6 := HX6.out.lt
            have HOW : Hid (Own w6 wr.heap.size 4 1 (some ⟨wr.heap.size, 0, none⟩) n n (klr.map sd.bv)) := Lib.hid (HA.out.own.next hb6)
            clear hb6 hz6 hdr hrb
            go_upto_region 16 with (fail)
            rw [← hw6]
            clear hw6
            go_wp2
            go_loopw [10] (fun i wx => ∃ p : Nat, lo ≤ p ∧ p ≤ hi ∧ i = .int .i64 (p : Int) ∧ Hid (Stays w6 wx (fun q => q = wr.heap.size) ∧ Own wx wr.heap.size 4 1 (some ⟨wr.heap.size, 0, none⟩) n n ((sd.setT klr lo (p - lo)).map sd.bv))) (fun i _ => hi - (intOf i).toNat)
            case atStart => exact ⟨lo, Nat.le_refl _, hlh.1, rfl, Lib.hid ⟨Stays.refl _ _, by rw [Nat.sub_self]; exact HOW.out⟩⟩
            case round =>
              obtain ⟨p, hp1, hp2, rfl, HP⟩ := hrel
              rename World => wx
              have hBx : BlkA wx wq.heap.size _ _ := HX6.out.stays HP.out.1 (by omega)
              have x1 := hBx.get 1
              simp only [List.getElem?_toArray, List.getElem?_cons_succ, List.getElem?_cons_zero] at x1
              have lx := hBx.lt
              have HBX := Lib.hid hBx
              clear hBx x0
              have hlen : (sd.setT klr lo (p - lo)).length = n := by rw [sd.setT_len]; exact HA.out.len
              by_cases hph : p < hi
              · have hpn : (p : Int) < (n : Int) := by omega
                have hph' : (p : Int) < (hi : Int) := by omega
                obtain ⟨g9, e9, _, l9, cp⟩ := sd.bool_at (K := some ⟨wr.heap.size, 0, none⟩) HP.out.2 (k := p) (by omega)
                cases e9
                have fp := HP.out.2.frozenAt p
                have HSM := Lib.hid (sd.setT_map klr lo p hp1)
                go_wp2
                go_roundw
                case rel => exact ⟨p + 1, by omega, by omega, by go_num, Lib.hid ⟨HP.out.1.comp (Stays.set _ _ _ _), by rw [← HSM.out]; exact HP.out.2.setAt _⟩⟩
                case measure => simp [intOf]; omega
              · obtain rfl : p = hi := by omega
                obtain ⟨d, v1, v2, v3, v4⟩ := HA.out.isl (r := ⟨(lo : Int), (p : Int)⟩) rfl rfl hlh.1 HN.out hlh.2
                have HIS := ref_islands (sd.setT klr lo (p - lo)) wr.heap.size d (some ⟨wr.heap.size, 0, none⟩) n wx (by rw [hlen]; exact HP.out.2) v1 v2 v3 (by omega)
                rw [v4, hlen] at HIS
                have HIS := Lib.hid HIS
                have HST6 : Hid (Stays wq wx (fun q => q = wr.heap.size)) := Lib.hid ((Stays.of_below HB6.out _).comp HP.out.1)
                by_cases hfull : 16 < (had.addTo d1 m1 ⟨(lo : Int), (p : Int)⟩).2.length
                · have HR9 : Hid (sd.heard s ⟨dk, dd, da, dw, ds⟩ = (9, s)) := Lib.hid (by
                    rw [HADD.out, ← HA.out.same, HDR2.out, sd.adds, if_pos hfull]
                    rfl)
                  have HB9 : Hid (Below w.heap.size w wx) := Lib.hid (HB04.out.trans ((HB45.out.mono (by omega)).trans ((HA.out.low.comp HST6.out).below (by omega) (fun q hq => by omega))))
                  have hfull' : (16 : Int) < ((had.addTo d1 m1 ⟨(lo : Int), (p : Int)⟩).2.length : Int) := by omega
                  generalize (had.addTo d1 m1 ⟨(lo : Int), (p : Int)⟩).2.length = q at *
                  clear v1 v2 v3 v4 hlen
                  go_wp2_with (first
                    | (go_at_call 83; ((with_reducible refine HIS.out.mono ?_); rintro e w7 ⟨rfl, rfl⟩))
                    | fail)
                  go_ret
                  exact HNO.out _ HR9.out _ HB9.out
                · have HNX := Lib.hid (HA.out.next HDR2.out rfl rfl hlh.1 HN.out hlh.2 (by omega) HST6.out HP.out.2)
                  have hfull' : ¬ (16 : Int) < ((had.addTo d1 m1 ⟨(lo : Int), (p : Int)⟩).2.length : Int) := by omega
                  generalize (had.addTo d1 m1 ⟨(lo : Int), (p : Int)⟩).1 = d2 at *
                  generalize hm2 : (had.addTo d1 m1 ⟨(lo : Int), (p : Int)⟩).2 = m2 at *
                  clear v1 v2 v3 v4 hlen hm2
                  go_wp2_with (first
                    | (go_at_call 83; ((with_reducible refine HIS.out.mono ?_); rintro e w7 ⟨rfl, rfl⟩))
                    | fail)
                  go_roundw
                  case rel => exact ⟨k + 1, d2, m2, _, by omega, by go_num, HNX⟩
                  case measure => simp [intOf]; omega
          · have hge : ¬ (k : Int) < 1 + (ds.length : Int) := by have := HM.out; omega
            obtain rfl : k = m := by omega
            have hb0q : Below w.heap.size w wq := HB04.out.trans ((HB45.out.mono (by omega)).trans (HA.out.low.below (by omega) (fun q hq => by omega)))
            have HB0Q := Lib.hid hb0q
            have HHQ := Lib.hid (H.out.next hb0q)
            have HDQ : Hid (BlkA wq w.heap.size 82 #[.int .i64 dk, .slice X dd.length xc, .int .i64 da, .int .i64 dw, .slice R ds.length rc]) := Lib.hid (((HDR.out.next HB4.out).next HB45.out).stays HA.out.low (by omega))
            have HRES : Hid (sd.heard s ⟨dk, dd, da, dw, ds⟩ = (0, { s with done := d1, more := m1, edge := max s.edge (da + dw) })) := Lib.hid (by
              have h := HA.out.same
              rw [← HAM.out, List.drop_length, sd.adds] at h
              rw [HADD.out, ← h]
              rfl)
            have hn4 := HN4.out
            have hdw : 0 ≤ dw ∧ dw ≤ 65535 := by omega
            have hBw : B ≤ wr.heap.size := by have := H.out.at_.lo; omega
            have hwr0 : w.heap.size ≤ wr.heap.size := HBR.out.size
            have hed := HI.out.edge
            have HFIN : Hid (∀ (e : Int) (w' : World), max s.edge (da + dw) = e → OAt w' B G s.data s.closed e s.next klr todo D dc (some ⟨wr.heap.size, 0, none⟩) n → Stays w w' (fun q => q = G) → HrsRes w B G (sd.heard s ⟨dk, dd, da, dw, ds⟩) D dc K todo (.returned (.int .i64 0)) w') := Lib.hid (fun e w' he ho hs => by
              subst he
              rw [HRES.out]
              refine ⟨klr, _, n, rfl, ⟨ho, HA.out.knows, by rw [HA.out.len, HN.out]; exact Int.le_refl _, H.out.todo.1, H.out.todo.2.1, fun x hx1 hx2 => ?_⟩, hs, fun q hq => .inr (by cases hq; exact hwr0)⟩
              exact HA.out.more x (H.out.todo.2.2 x hx1 hx2))
            have f4 := HHQ.out.at_.blk.frozen 4
            have c4 := HHQ.out.at_.blk.get 4
            simp only [List.getElem?_toArray, List.getElem?_cons_succ, List.getElem?_cons_zero] at c4
            have hGq := HHQ.out.at_.blk.lt
            clear hn4 hb0q
            go_upto_region 24 with (fail)
            generalize hw8 : World.setCell wq _ _ = w8
            have HO8 : Hid (OAt w8 B G s.data s.closed s.edge s.next klr todo D dc (some ⟨wr.heap.size, 0, none⟩) n) := Lib.hid (by rw [← hw8]; exact HHQ.out.at_.putKnown (HA.out.own.base_le hBw) HA.out.len.symm)
            have HS8 : Hid (Stays w w8 (fun q => q = G)) := Lib.hid (by rw [← hw8]; exact (Stays.of_below HB0Q.out _).comp (Stays.set _ _ _ _))
            have hD8 : BlkA w8 w.heap.size 82 #[.int .i64 dk, .slice X dd.length xc, .int .i64 da, .int .i64 dw, .slice R ds.length rc] := by rw [← hw8]; exact HDQ.out.setCell (by simp only; omega) _
            clear hw8 f4 c4 hGq
            have c2 := HO8.out.blk.get 2
            have f2 := HO8.out.blk.frozen 2
            have g2 := hD8.get 2
            have g3 := hD8.get 3
            simp only [List.getElem?_toArray, List.getElem?_cons_succ, List.getElem?_cons_zero] at c2 g2 g3
            have hG8 := HO8.out.blk.lt
            have l8 := hD8.lt
            by_cases hmx : s.edge < da + dw
            · have qm : decide (s.edge < da + dw) = true := by simpa using hmx
              have HMX : Hid (max s.edge (da + dw) = da + dw) := Lib.hid (by omega)
              clear hD8 HDQ HDR
              go_wp2
              go_quiet (fail)
              go_wp2
              go_ret
              exact HFIN.out _ _ HMX.out ((HO8.out.next (bdrewN (bself _) _)).putEdge _) ((HS8.out.comp (Stays.of_below (bdrewN (bself _) _) _)).comp (Stays.set _ _ _ _))
            · have qm : decide (s.edge < da + dw) = false := by simpa using hmx
              have HMX : Hid (max s.edge (da + dw) = s.edge) := Lib.hid (by omega)
              clear hD8 HDQ HDR
              go_wp2
              go_quiet (fail)
              go_wp2
              go_ret
              exact HFIN.out _ _ HMX.out (HO8.out.next (bdrewN (bself _) _)) (HS8.out.comp (Stays.of_below (bdrewN (bself _) _) _))
end Go.Proofs.Ytdldfllllgogoaa
namespace Go.Proofs.Ytdldfllllgogoaa.sd
open had

/-- where the search ends -/
theorem search_at {s : St} (h : Inv s) {kl : List Bool} {todo : Int} (hk : Knows kl s.done s.more) (ht : 0 ≤ todo ∧ todo ≤ s.again ∧ ∀ x, todo ≤ x → x < s.again → heardP s x) :
    ∃ a : Nat, (a : Int) = first s s.again s.next ∧ todo ≤ a ∧ (a : Int) ≤ s.next ∧ (∀ p : Nat, todo ≤ p → p < a → kl.getD p false = true) ∧ ((a : Int) < s.next → kl.getD a false = false) := by
  obtain ⟨h1, h2, h3, h4⟩ := first_ok h h.again.2
  have ha := h.again
  refine ⟨(first s s.again s.next).toNat, by omega, by omega, by omega, fun p p1 p2 => ?_, fun hl => ?_⟩
  · rw [hk p]
    have hp : heardP s p := by
      by_cases hc : (p : Int) < s.again
      · exact ht.2.2 p p1 hc
      · exact h3 p (by omega) (by omega) (by omega)
    exact hp.imp (fun x => x.2) id
  · have h5 := h4 (by omega)
    cases hb : kl.getD (first s s.again s.next).toNat false with
    | false => rfl
    | true =>
      exfalso
      have h6 := (hk _).1 hb
      rw [show ((first s s.again s.next).toNat : Int) = first s s.again s.next by omega] at h6
      exact h5 (h6.imp (fun x => ⟨by omega, x⟩) id)
theorem piece_plan {s : St} {f T : Nat} (hf : f < T) (ht : (T : Int) ≤ endOf s) :
    ∃ N : Nat, f ≤ N ∧ N ≤ T ∧ N ≤ f + 64 ∧ N ≤ s.data.length ∧ (N = T ∨ (N < T ∧ N = s.data.length ∧ T = N + 1 ∧ endOf s = N + 1) ∨ (N < T ∧ N < s.data.length ∧ N = f + 64)) ∧
      (piece s f T).data = (s.data.drop f).take (N - f) ∧ (piece s f T).fin = decide (N = s.data.length ∧ N < T) ∧ after (piece s f T) = N + fin1 (decide (N = s.data.length ∧ N < T)) ∧ f < N + (if N = s.data.length ∧ N < T then 1 else 0) := by
  have h1 := fin1_le s.closed
  have hen : endOf s ≤ s.data.length + 1 := by unfold endOf; omega
  refine ⟨min (min T s.data.length) (f + 64), by omega, by omega, by omega, by omega, by omega, ?_, ?_, ?_, ?_⟩
  · unfold piece
    simp only
    congr 1
    omega
  · unfold piece
    simp only
    exact decide_eq_decide.2 (by omega)
  · have h2 := (after_piece (s := s) (f := f) (t := T) (by omega) (by omega) (by omega) (by omega)).2.2
    rw [h2, piece_fin]
    have : decide (min (min (T : Int) s.data.length) (f + 64) = s.data.length ∧ min (min (T : Int) s.data.length) (f + 64) < T) = decide (min (min T s.data.length) (f + 64) = s.data.length ∧ min (min T s.data.length) (f + 64) < T) := decide_eq_decide.2 (by omega)
    rw [this]
    omega
  · split <;> omega
/-- how polls goes -/
structure Plan (s : St) (kl : List Bool) (b : Bool) (f : Nat) (lim : Int) (T N : Nat) : Prop where
  go : ∀ x : Nat, f ≤ x → x < T → (x : Int) < lim ∧ (x : Int) < endOf s ∧ (b = true → kl.getD x false = false)
  stop : ¬ ((T : Int) < lim) ∨ ((T : Int) < lim ∧ ¬ ((T : Int) < endOf s)) ∨ ((T : Int) < lim ∧ (T : Int) < endOf s ∧ b = true ∧ kl.getD T false = true)
  le : f ≤ N ∧ N ≤ T ∧ N ≤ f + 64 ∧ (f < T → N ≤ s.data.length)
  bound : f ≤ 1048576 ∧ T ≤ 1048576
  end_ : N = T ∨ (N < T ∧ N = s.data.length ∧ T = N + 1 ∧ endOf s = N + 1) ∨ (N < T ∧ N < s.data.length ∧ N = f + 64)
  no : T = f → poll s = (⟨0, 0, [], false, false, true, 0⟩, s)
  yes : f < T → poll s = (⟨0, f, (s.data.drop f).take (N - f), decide (N = s.data.length ∧ N < T), b, false, 0⟩, if b = true then { s with again := N + fin1 (decide (N = s.data.length ∧ N < T)) } else { s with next := N + fin1 (decide (N = s.data.length ∧ N < T)), again := N + fin1 (decide (N = s.data.length ∧ N < T)) })
  more : f < T → f < N + (if N = s.data.length ∧ N < T then 1 else 0)
theorem plan_again {s : St} (h : Inv s) {kl : List Bool} (hk : Knows kl s.done s.more) {a : Nat} (ha : (a : Int) = first s s.again s.next) (hlt : (a : Int) < s.next) : ∃ T N, Plan s kl true a s.next T N := by
  obtain ⟨h1, h2, h3, h4⟩ := first_ok h h.again.2
  have hlo := h.lo
  have hen := h.end_
  have hnc : ¬ cov s.more (a : Int) := fun e => h4 (by omega) (.inr (ha ▸ e))
  obtain ⟨a1, a2, a3, a4⟩ := ahead_ok h.canon hnc hlt h.hi
  obtain ⟨T, hT⟩ : ∃ T : Nat, ahead s.more a s.next = T := ⟨(ahead s.more a s.next).toNat, by omega⟩
  rw [hT] at a1 a2 a3 a4
  obtain ⟨N, n1, n2, n3, n4, n5, n6, n7, n8, n9⟩ := piece_plan (s := s) (f := a) (T := T) (by omega) (by omega)
  refine ⟨T, N, fun x x1 x2 => ⟨by omega, by omega, fun _ => ?_⟩, ?_, ⟨n1, n2, n3, fun _ => n4⟩, ⟨by omega, by omega⟩, n5, fun e => by omega, fun _ => ?_, fun _ => n9⟩
  · cases hb : kl.getD x false with
    | false => rfl
    | true =>
      exfalso
      rcases (hk x).1 hb with e | e
      · omega
      · exact a3 x (by omega) (by omega) e
  · rcases a4 with e | e
    · exact .inl (by omega)
    · by_cases hl : (T : Int) < s.next
      · exact .inr (.inr ⟨hl, by omega, rfl, (hk T).2 (.inr e)⟩)
      · exact .inl hl
  · unfold poll
    simp only
    rw [← ha, if_pos hlt, hT, n8]
    have e1 : (piece s a T) = ⟨0, a, (piece s a T).data, (piece s a T).fin, false, false, 0⟩ := rfl
    rw [e1, n6, n7]
    rfl
theorem plan_new {s : St} (h : Inv s) (kl : List Bool) {f : Nat} (hf : s.next = f) (hge : ¬ first s s.again s.next < s.next) : ∃ T N, Plan s kl false f s.edge T N := by
  have hlo := h.lo
  have hen := h.end_
  have hed := h.edge
  by_cases c : min (endOf s) s.edge ≤ s.next
  · refine ⟨f, f, fun x x1 x2 => by omega, ?_, ⟨Nat.le_refl _, Nat.le_refl _, by omega, fun e => by omega⟩, ⟨by omega, by omega⟩, .inl rfl, fun _ => ?_, fun e => by omega, fun e => by omega⟩
    · by_cases hl : (f : Int) < s.edge
      · exact .inr (.inl ⟨hl, by omega⟩)
      · exact .inl hl
    · unfold poll
      simp only
      rw [if_neg hge, if_pos c]
  · obtain ⟨T, hT⟩ : ∃ T : Nat, min (endOf s) s.edge = T := ⟨(min (endOf s) s.edge).toNat, by omega⟩
    obtain ⟨N, n1, n2, n3, n4, n5, n6, n7, n8, n9⟩ := piece_plan (s := s) (f := f) (T := T) (by omega) (by omega)
    refine ⟨T, N, fun x x1 x2 => ⟨by omega, by omega, fun e => by cases e⟩, ?_, ⟨n1, n2, n3, fun _ => n4⟩, ⟨by omega, by omega⟩, n5, fun e => by omega, fun _ => ?_, fun _ => n9⟩
    · by_cases hl : (T : Int) < s.edge
      · exact .inr (.inl ⟨hl, by omega⟩)
      · exact .inl hl
    · unfold poll
      simp only
      rw [if_neg hge, if_neg c, hT, hf, n8]
      have e1 : (piece s f T) = ⟨0, f, (piece s f T).data, (piece s f T).fin, false, false, 0⟩ := rfl
      rw [e1, n6, n7]
      rfl
end Go.Proofs.Ytdldfllllgogoaa.sd
namespace Go.Proofs.Ytdldfllllgogoaa
open Go.RowKit
set_option linter.unusedSimpArgs false

def PolRes (w : World) (B G : Nat) (r : Sent × sd.St) (kl : List Bool) (D : Option Addr) (dc : Nat) (K : Option Addr) (kc : Nat) (e : Ending) (w' : World) : Prop :=
  ∃ E ec todo, e = .returned (.agg #[.int .i64 r.1.code, .int .i64 r.1.from_, .slice E r.1.data.length ec, .bool r.1.fin, .bool r.1.again, .bool r.1.idle, .int .i64 r.1.left]) ∧ Own w' w.heap.size 5 1 E r.1.data.length ec (r.1.data.map rv.u8v) ∧ OS w' B G r.2 kl todo D dc K kc ∧ Stays w w' (fun k => k = G)
theorem OS.lts {w : World} {B G : Nat} {s : sd.St} {kl : List Bool} {todo : Int} {D : Option Addr} {dc : Nat} {K : Option Addr} {kc : Nat} (h : OS w B G s kl todo D dc K kc) (k : Nat) (hk : k = G ∨ blkOf D = some k ∨ blkOf K = some k) : k < w.heap.size := by
  rcases hk with rfl | e | e
  · exact h.at_.blk.lt
  · exact (h.at_.data.lt k e).2
  · exact (h.at_.known.lt k e).2
theorem OS.stays {w w' : World} {B G : Nat} {s : sd.St} {kl : List Bool} {todo : Int} {D : Option Addr} {dc : Nat} {K : Option Addr} {kc : Nat} {No : Nat → Prop} (h : OS w B G s kl todo D dc K kc) (hs : Stays w w' No) (hn : ∀ k, k = G ∨ blkOf D = some k ∨ blkOf K = some k → ¬ No k) : OS w' B G s kl todo D dc K kc := ⟨h.at_.stays hs hn, h.knows, h.len, h.todo⟩
/-- what polls has so far -/
structure PolAt (w wx : World) (a : Nat) (b fin : Bool) (dt : List UInt8) (E : Option Addr) (ec : Nat) : Prop where
  res : BlkA wx w.heap.size 49 #[.int .i64 0, .int .i64 0, .slice none 0 0, .bool false, .bool false, .bool false, .int .i64 0]
  box : BlkA wx (w.heap.size + 1) 49 #[.int .i64 0, .int .i64 a, .slice E dt.length ec, .bool fin, .bool b, .bool false, .int .i64 0]
  own : Own wx (w.heap.size + 1 + 1) 5 1 E dt.length ec (dt.map rv.u8v)
  low : Below w.heap.size w wx
theorem PolAt.fins {w wx : World} {a : Nat} {b fin : Bool} {dt : List UInt8} {E : Option Addr} {ec : Nat} (h : PolAt w wx a b fin dt E ec) : PolAt w (wx.setCell ⟨w.heap.size + 1, 3, none⟩ (.bool true)) a b true dt E ec :=
  ⟨h.res.setCell (by simp only; omega) _, by simpa using h.box.set 3 (.bool true), h.own.setCell (fun e => by have := (h.own.lt _ e).1; simp only at this; omega) _, h.low.setCell (by simp only; omega) _⟩
theorem PolAt.push {w wx wa w6 : World} {a : Nat} {b fin : Bool} {dt : List UInt8} {E E6 : Option Addr} {ec ec6 k : Nat} {x : UInt8} (h : PolAt w wx a b fin dt E ec) (hk : dt.length = k) (hb : Below wx.heap.size wx wa) (hg : Grew wa w6 E E6) (ho : Own w6 (w.heap.size + 1 + 1) 5 1 E6 (k + 1) ec6 (dt.map rv.u8v ++ [.int .u8 (x.toNat : Int)])) :
    PolAt w (w6.setCell ⟨w.heap.size + 1, 2, none⟩ (.slice E6 (k + 1) ec6)) a b fin (dt ++ [x]) E6 ec6 := by
  have hlt := h.own.lt
  have hlt6 := ho.lt
  have st : Stays wx w6 (fun q => blkOf E = some q) := (Stays.of_below hb _).comp (Stays.grew hg)
  have hbx : BlkA w6 (w.heap.size + 1) _ _ := h.box.stays st (fun e => by have := (hlt _ e).1; omega)
  have hrx : BlkA w6 w.heap.size _ _ := h.res.stays st (fun e => by have := (hlt _ e).1; omega)
  have hl : (dt ++ [x]).length = k + 1 := by rw [List.length_append, hk]; rfl
  refine ⟨hrx.setCell (by simp only; omega) _, ?_, ?_, ?_⟩
  · rw [hl]
    simpa using hbx.set 2 (.slice E6 (k + 1) ec6)
  · rw [hl, List.map_append]
    exact ho.setCell (fun e => by have := (hlt6 _ e).1; simp only at this; omega) _
  · exact (h.low.trans (st.below h.low.size (fun q hq => by have := (hlt _ hq).1; omega))).setCell (by simp only; omega) _
theorem sd.data_snoc {l : List UInt8} {a p : Nat} (ha : a ≤ p) (hp : p < l.length) : (l.drop a).take (p + 1 - a) = (l.drop a).take (p - a) ++ [l.getD p 0] := by
  rw [show p + 1 - a = (p - a) + 1 by omega, List.take_add_one, List.getElem?_drop, show a + (p - a) = p by omega, List.getElem?_eq_getElem hp, List.getD_eq_getElem?_getD, List.getElem?_eq_getElem hp]
  rfl
/-- where the loop of polls ends -/
def sd.PolEnd (s : sd.St) (a T N q : Nat) (dt : List UInt8) (fin : Bool) : Prop :=
  (T = a ∧ q = a ∧ dt = [] ∧ fin = false) ∨ (a < T ∧ q = N + (if fin = true then 1 else 0) ∧ dt = (s.data.drop a).take (N - a) ∧ fin = decide (N = s.data.length ∧ N < T))
set_option maxRecDepth 100000 in
set_option maxHeartbeats 4000000 in
theorem ref_polls (B G : Nat) (s : sd.St) (kl : List Bool) (todo : Int) (D : Option Addr) (dc : Nat) (K : Option Addr) (kc : Nat) (w : World) (h : OS w B G s kl todo D dc K kc) (hi : sd.Inv s) :
    Calls Try.prog 54 #[.pointer (some ⟨G, 0, none⟩)] w (PolRes w B G (sd.poll s) kl D dc K kc) := by
  have HI := Lib.hid hi
  obtain ⟨a, ha1, ha2, ha3, ha4, ha5⟩ := sd.search_at hi h.knows h.todo
  have htd := h.todo
  have hlo := hi.lo
  have hen := hi.end_
  have hsz := hi.size
  have hed := hi.edge
  have hagb := hi.again
  obtain ⟨td, rfl⟩ : ∃ td : Nat, todo = td := ⟨todo.toNat, by omega⟩
  obtain ⟨n, hn⟩ : ∃ n : Nat, s.next = n := ⟨s.next.toNat, by omega⟩
  have htd1 : td ≤ a := by omega
  have hn1 : n ≤ 1048576 := by omega
  rw [hn] at ha3 ha5
  have han : a ≤ n := by omega
  obtain ⟨b, hb⟩ : ∃ b : Bool, b = decide (a < n) := ⟨_, rfl⟩
  obtain ⟨lim, hlim⟩ : ∃ lim : Int, lim = if b = true then (n : Int) else s.edge := ⟨_, rfl⟩
  have hlimb : 0 ≤ lim ∧ lim ≤ 1200000 := by rw [hlim]; split <;> omega
  obtain ⟨T, N, hP⟩ : ∃ T N, sd.Plan s kl b a lim T N := by
    by_cases hc : a < n
    · have hb' : b = true := by rw [hb]; simpa using hc
      rw [hlim, if_pos hb', hb', ← hn]
      exact sd.plan_again hi h.knows ha1 (by omega)
    · have hb' : b = false := by rw [hb]; simpa using hc
      rw [hlim, hb', if_neg (by simp)]
      exact sd.plan_new hi kl (f := a) (by omega) (by omega)
  obtain ⟨w1, hw1⟩ : ∃ w1, w1 = w.alloc (.cells #[.int .i64 0, .int .i64 0, .slice none 0 0, .bool false, .bool false, .bool false, .int .i64 0] 49) := ⟨_, rfl⟩
  have hb1 : Below w.heap.size w w1 := by rw [hw1]; exact balloc (bself w) _
  have HZ1 : Hid (BlkA w1 w.heap.size 49 #[.int .i64 0, .int .i64 0, .slice none 0 0, .bool false, .bool false, .bool false, .int .i64 0]) := Lib.hid (by rw [hw1]; exact BlkA.new _ _ _)
  have hz1 : w1.heap.size = w.heap.size + 1 := by rw [hw1]; simp
  have HH1 := Lib.hid (h.next hb1)
  have HHE : Hid (∀ (wx : World) (p : Nat) (b' : Bool), Below w.heap.size w wx → p ≤ 4000000 → kl.getD p false = b' → Calls Try.prog 52 #[.pointer (some ⟨G, 0, none⟩), .int .i64 (p : Int)] wx fun e w' => e = .returned (.bool b') ∧ wx = w') := Lib.hid (fun wx p b' hb hp he => he ▸ ref_heard B G s.data s.closed s.edge s.next kl td D dc K kc p wx (h.next hb).at_ hp)
  have HPL : Hid (∀ (wx : World) (en : Int), Below w.heap.size w wx → sd.endOf s = en → Calls Try.prog 53 #[.pointer (some ⟨G, 0, none⟩)] wx fun e w' => e = .returned (.int .i64 en) ∧ wx = w') := Lib.hid (fun wx en hb he => he ▸ ref_places B G s.data s.closed s.edge s.next kl td D dc K kc wx (h.next hb).at_ hsz)
  have H := Lib.hid h
  have HN := Lib.hid hn
  have HB1 := Lib.hid hb1
  have HB := Lib.hid hb
  have HLIM := Lib.hid hlim
  have HA4 := Lib.hid ha4
  have HA5 := Lib.hid ha5
  have HPN := Lib.hid hP
  have hG1 : G < w1.heap.size := HH1.out.at_.blk.lt
  have c2 := HH1.out.at_.blk.get 2
  have c3 := HH1.out.at_.blk.get 3
  have c5 := HH1.out.at_.blk.get 5
  simp only [List.getElem?_toArray, List.getElem?_cons_succ, List.getElem?_cons_zero] at c2 c3 c5
  rw [hn] at c3
  clear h hi hn hb hlim ha1 ha2 ha3 ha4 ha5 htd hlo hagb hP hb1
  go_enter Try.func54, Try.ntmps54
  go_upto_region 1 with (fail)
  rw [← hw1]
  clear hw1
  go_upto_block 0 with (fail)
  go_cut [3] (fun s3 wx => s3 = .int .i64 (a : Int) ∧ w1 = wx)
  case first =>
    go_wp2
    go_loop [3] (fun i => ∃ p : Nat, td ≤ p ∧ p ≤ a ∧ i = .int .i64 p) (fun i => a - (intOf i).toNat)
    case atStart => exact ⟨td, Nat.le_refl _, htd1, rfl⟩
    case round =>
      obtain ⟨p, hp1, hp2, rfl⟩ := hrel
      by_cases hpa : p < a
      · have hpn : (p : Int) < (n : Int) := by omega
        have HHP := Lib.hid (HHE.out w1 p true HB1.out (by omega) (HA4.out p (by omega) hpa))
        go_wp2_with (first
          | (go_at_call 52; ((with_reducible refine HHP.out.mono ?_); rintro e _ ⟨rfl, rfl⟩))
          | fail)
        go_round
        case rel => exact ⟨p + 1, by omega, by omega, by go_num⟩
        case measure => simp [intOf]; omega
      · obtain rfl : p = a := by omega
        by_cases hc : p < n
        · have hpn : (p : Int) < (n : Int) := by omega
          have HHP := Lib.hid (HHE.out w1 p false HB1.out (by omega) (HA5.out hpn))
          go_wp2_with (first
            | (go_at_call 52; ((with_reducible refine HHP.out.mono ?_); rintro e _ ⟨rfl, rfl⟩))
            | fail)
          go_meet
          exact ⟨rfl, rfl⟩
        · have hpn : ¬ (p : Int) < (n : Int) := by omega
          have hq : decide (p < n) = false := by simpa using hc
          go_wp2
          go_meet
          exact ⟨rfl, rfl⟩
  case rest =>
    obtain ⟨rfl, rfl⟩ := hcut
    have hb1 : decide ((a : Int) < (n : Int)) = b := by rw [HB.out]; exact decide_eq_decide.2 (by omega)
    have hb2 : decide (a < n) = b := HB.out.symm
    go_upto_if 35 with (fail)
    go_cut [3, 5] (fun s3 s5 wx => s3 = .int .i64 (a : Int) ∧ s5 = .int .i64 lim ∧ w1 = wx)
    case first =>
      cases b with
      | true =>
        go_wp2
        go_meet
        exact ⟨rfl, by rw [HLIM.out]; rfl, rfl⟩
      | false =>
        have han2 : (n : Int) = a := by have := HB.out; simp at this; omega
        go_wp2
        go_meet
        exact ⟨by congr 1, by rw [HLIM.out]; rfl, rfl⟩
    case rest =>
      obtain ⟨rfl, rfl, rfl⟩ := hcut
      clear hb1 hb2 c2 c3 c5
      obtain ⟨w2, hw2⟩ : ∃ w2, w2 = w1.alloc (.cells #[.int .i64 0, .int .i64 (a : Int), .slice none 0 0, .bool false, .bool b, .bool false, .int .i64 0] 49) := ⟨_, rfl⟩
      have HP2 : Hid (PolAt w w2 a b false [] none 0) := Lib.hid ⟨by rw [hw2]; exact HZ1.out.alloc _, by rw [hw2, ← hz1]; exact BlkA.new _ _ _, Own.nil _ _ _ _, by rw [hw2]; exact balloc HB1.out _⟩
      have HT := Lib.hid hz1
      go_upto_region 10 with (fail)
      rw [← hw2]
      clear hw2
      go_upto_block 2 with (fail)
      go_cut [7] (fun s7 wx => ∃ (q : Nat) (E : Option Addr) (ec : Nat) (dt : List UInt8) (fin : Bool), s7 = .int .i64 (q : Int) ∧ Hid (PolAt w wx a b fin dt E ec) ∧ Hid (sd.PolEnd s a T N q dt fin))
      case first =>
        go_wp2
        go_loopw [7] (fun i wx => ∃ (p : Nat) (E : Option Addr) (ec : Nat) (dt : List UInt8) (fin : Bool), i = .int .i64 (p : Int) ∧ Hid (PolAt w wx a b fin dt E ec) ∧ Hid ((fin = false ∧ a ≤ p ∧ p ≤ N ∧ dt = (s.data.drop a).take (p - a)) ∨ (fin = true ∧ p = N + 1 ∧ a < T ∧ N < T ∧ N = s.data.length ∧ dt = (s.data.drop a).take (N - a)))) (fun i _ => N + 2 - (intOf i).toNat)
        case atStart => exact ⟨a, none, 0, [], false, rfl, HP2, Lib.hid (.inl ⟨rfl, Nat.le_refl _, HPN.out.le.1, by simp⟩)⟩
        case round =>
          obtain ⟨p, E, ec, dt, fin, rfl, HPA, HC⟩ := hrel
          rename World => wx
          have HBX : Hid (Below w.heap.size w wx) := Lib.hid HPA.out.low
          have HHX := Lib.hid (H.out.next HBX.out)
          have zd := HPA.out.box.get
          have ze := HPA.out.box.frozen
          have lb := HPA.out.box.lt
          have hGx : G < wx.heap.size := HHX.out.at_.blk.lt
          have d0 := HHX.out.at_.blk.get 0
          simp only [List.getElem?_toArray, List.getElem?_cons_zero] at d0
          have hle := HPN.out.le
          have hbd := HPN.out.bound
          have hen_ := HPN.out.end_
          obtain ⟨en, hEN⟩ : ∃ en, sd.endOf s = en := ⟨_, rfl⟩
          have HPLX := Lib.hid (HPL.out wx en HBX.out hEN)
          rcases HC.out with ⟨rfl, hp1, hp2, hdt⟩ | ⟨rfl, hpe, h3, h4, h5, hdt⟩
          · have hk : dt.length = p - a := by rw [hdt, List.length_take, List.length_drop]; omega
            obtain ⟨k, hkk⟩ : ∃ k : Nat, p - a = k := ⟨_, rfl⟩
            rw [hkk] at hk
            simp only [hk] at zd
            have HK := Lib.hid hk
            have HKK := Lib.hid hkk
            by_cases hpT : p < T
            · obtain ⟨k1, k2, k3⟩ := HPN.out.go p hp1 hpT
              rw [hEN] at k2
              have HHP : Hid (b = true → Calls Try.prog 52 #[.pointer (some ⟨G, 0, none⟩), .int .i64 (p : Int)] wx fun e w' => e = .returned (.bool false) ∧ wx = w') := Lib.hid (fun hb => HHE.out wx p false HBX.out (by omega) (k3 hb))
              have k1b : decide ((p : Int) < lim) = true := by simpa using k1
              have k2b : decide ((p : Int) < en) = true := by simpa using k2
              by_cases hpN : p < N
              · have hpl : p < s.data.length := by omega
                have hk64 : k < 64 := by omega
                have e1 : (p == s.data.length) = false := by simp; omega
                have e2 : ((p : Int) == (s.data.length : Int)) = false := by simp; omega
                have e3 : ((k : Int) == 64) = false := by simp; omega
                have e4 : (k == 64) = false := by simp; omega
                have hpl2 : (p : Int) < (s.data.length : Int) := by omega
                obtain ⟨gD, rfl, _, lD, dcell⟩ := HHX.out.at_.data.cell (j := p) (u := .int .u8 ((s.data.getD p 0).toNat : Int)) (by rw [List.getElem?_map, List.getElem?_eq_getElem hpl, List.getD_eq_getElem?_getD, List.getElem?_eq_getElem hpl]; rfl)
                have HSN := Lib.hid (sd.data_snoc (l := s.data) hp1 hpl)
                have HDT := Lib.hid hdt
                generalize s.data.getD p 0 = x at *
                have hownE := HPA.out.own
                rw [hk] at hownE
                have HOX : Hid (∀ m ob, Own ((wx.drewN m).alloc ob) (w.heap.size + 1 + 1) 5 1 E k ec (dt.map rv.u8v)) := Lib.hid fun m ob => hownE.next (balloc (bdrewN (bself _) _) _)
                have HBW : Hid (∀ m ob, Below wx.heap.size wx ((wx.drewN m).alloc ob)) := Lib.hid fun m ob => balloc (bdrewN (bself _) _) _
                have hsz2 : w.heap.size + 1 + 1 ≤ wx.heap.size := by omega
                have HSX : Hid (∀ m ob, w.heap.size + 1 + 1 ≤ ((wx.drewN m).alloc ob).heap.size) := Lib.hid fun m ob => Nat.le_trans hsz2 (HBW.out m ob).size
                have HLB : Hid (∀ m ob, w.heap.size + 1 < ((wx.drewN m).alloc ob).heap.size) := Lib.hid fun m ob => Nat.lt_of_lt_of_le lb (HBW.out m ob).size
                have HNB : Hid (∀ q, blkOf E = some q → q ≠ w.heap.size + 1) := Lib.hid fun q hq e => by have := (hownE.lt q hq).1; omega
                have HCB : Hid (∀ m ob, ((wx.drewN m).alloc ob).cell? ⟨w.heap.size + 1, 2, none⟩ = some (.slice E k ec)) := Lib.hid fun m ob => by
                  have h := (HPA.out.box.next (HBW.out m ob)).get 2
                  rw [HK.out] at h
                  simpa using h
                have HFB : Hid (∀ m ob, ((wx.drewN m).alloc ob).frozen? ⟨w.heap.size + 1, 2, none⟩ = false) := Lib.hid fun m ob => (HPA.out.box.next (HBW.out m ob)).frozen 2
                clear hownE hdt hk hkk
                cases b
                all_goals
                  go_upto_region 15 with (first
                    | (go_at_call 52; ((with_reducible refine (HHP.out (by trivial)).mono ?_); rintro e _ ⟨rfl, rfl⟩))
                    | (go_at_call 53; ((with_reducible refine HPLX.out.mono ?_); rintro e _ ⟨rfl, rfl⟩))
                    | fail)
                  go_region_law
                    (first
                      | (refine step_app _ (by rfl) _ _ _ (by rfl) elemU8 (w.heap.size + 1 + 1) E k ec _ (by rfl) (HOX.out _ _) (some ⟨wx.heap.size, 0, none⟩) 1 1 [.int .u8 (x.toNat : Int)] (by rfl) (by rfl) (Cells.newAt _ _ _ (by first | rfl | (simp; done))) (by simp [Value.oneCell']) (by first | omega | (simp; done) | (simp; omega)) (by unfold maxLen; first | omega | (simp; done) | (simp; omega)) (HSX.out _ _) ?_; intro E7 c7 w7 hO7 hg7; have x5 := (hg7.cell (b := w.heap.size + 1) 2 (HLB.out _ _) HNB.out).trans (HCB.out _ _); have x6 := (hg7.frozen (b := w.heap.size + 1) 2 (HLB.out _ _) HNB.out).trans (HFB.out _ _))
                      | fail)
                  all_goals
                    have HNEW := Lib.hid (HPA.out.push HK.out (HBW.out _ _) hg7 hO7)
                    clear hg7 hO7
                    go_wp2
                    go_roundw
                    case rel => exact ⟨p + 1, E7, c7, dt ++ [x], false, by go_num, HNEW, Lib.hid (.inl ⟨rfl, by omega, by omega, by rw [HSN.out, HDT.out]⟩)⟩
                    case measure => simp [intOf]; omega
              · obtain rfl : p = N := by omega
                rcases hen_ with e | ⟨q1, q2, q3, q4⟩ | ⟨q1, q2, q3⟩
                · omega
                · have e1 : (p == s.data.length) = true := by simpa using q2
                  have e2 : ((p : Int) == (s.data.length : Int)) = true := by simp; omega
                  have HNEW := Lib.hid HPA.out.fins
                  have HDT := Lib.hid hdt
                  have HQ2 := Lib.hid q2
                  clear hdt hk hkk q2
                  cases b
                  all_goals
                    go_wp2_with (first
                      | (go_at_call 52; ((with_reducible refine (HHP.out (by trivial)).mono ?_); rintro e _ ⟨rfl, rfl⟩))
                      | (go_at_call 53; ((with_reducible refine HPLX.out.mono ?_); rintro e _ ⟨rfl, rfl⟩))
                      | fail)
                    go_roundw
                    case rel => exact ⟨p + 1, E, ec, dt, true, by go_num, HNEW, Lib.hid (.inr ⟨rfl, rfl, by omega, q1, HQ2.out, HDT.out⟩)⟩
                    case measure => first | (simp [intOf]; done) | (simp [intOf]; omega)
                · have e1 : (p == s.data.length) = false := by simp; omega
                  have e2 : ((p : Int) == (s.data.length : Int)) = false := by simp; omega
                  obtain rfl : k = 64 := by omega
                  have HEND : Hid (sd.PolEnd s a T p p dt false) := Lib.hid (.inr ⟨by omega, by simp, hdt, (decide_eq_false (by omega)).symm⟩)
                  clear hdt hk hkk q3
                  cases b
                  all_goals
                    go_wp2_with (first
                      | (go_at_call 52; ((with_reducible refine (HHP.out (by trivial)).mono ?_); rintro e _ ⟨rfl, rfl⟩))
                      | (go_at_call 53; ((with_reducible refine HPLX.out.mono ?_); rintro e _ ⟨rfl, rfl⟩))
                      | fail)
                    go_meet
                    exact ⟨p, E, ec, dt, false, rfl, HPA, HEND⟩
            · have hpT2 : p = T := by omega
              have hNT : N = T := by omega
              have HEND : Hid (sd.PolEnd s a T N p dt false) := Lib.hid (by
                by_cases hTa : T = a
                · refine .inl ⟨hTa, by omega, ?_, rfl⟩
                  rw [hdt, show p - a = 0 by omega]
                  rfl
                · exact .inr ⟨by omega, by simp; omega, by rw [hNT, ← hpT2]; exact hdt, (decide_eq_false (by omega)).symm⟩)
              have hst := HPN.out.stop
              rw [← hpT2, hEN] at hst
              have hpT3 : p ≤ 4000000 := by omega
              clear hdt hk hkk hpT2 hNT hen_ hpT
              rcases hst with s1 | ⟨s1, s2⟩ | ⟨s1, s2, s3, s4⟩
              · have k1b : decide ((p : Int) < lim) = false := by simpa using s1
                go_wp2
                go_meet
                exact ⟨p, E, ec, dt, false, rfl, HPA, HEND⟩
              · have k1b : decide ((p : Int) < lim) = true := by simpa using s1
                have k2b : decide ((p : Int) < en) = false := by simpa using s2
                go_wp2_with (first
                  | (go_at_call 53; ((with_reducible refine HPLX.out.mono ?_); rintro e _ ⟨rfl, rfl⟩))
                  | fail)
                go_meet
                exact ⟨p, E, ec, dt, false, rfl, HPA, HEND⟩
              · have k1b : decide ((p : Int) < lim) = true := by simpa using s1
                have k2b : decide ((p : Int) < en) = true := by simpa using s2
                subst s3
                have HHP := Lib.hid (HHE.out wx p true HBX.out hpT3 s4)
                go_wp2_with (first
                  | (go_at_call 52; ((with_reducible refine HHP.out.mono ?_); rintro e _ ⟨rfl, rfl⟩))
                  | (go_at_call 53; ((with_reducible refine HPLX.out.mono ?_); rintro e _ ⟨rfl, rfl⟩))
                  | fail)
                go_meet
                exact ⟨p, E, ec, dt, false, rfl, HPA, HEND⟩
          · have hen2 : en = N + 1 := by
              rcases hen_ with e | ⟨q1, q2, q3, q4⟩ | ⟨q1, q2, q3⟩ <;> omega
            have s2 : ¬ (p : Int) < en := by omega
            have k2b : decide ((p : Int) < en) = false := by simpa using s2
            have HEND : Hid (sd.PolEnd s a T N p dt true) := Lib.hid (.inr ⟨h3, by simpa using hpe, hdt, (decide_eq_true ⟨h5, h4⟩).symm⟩)
            clear hdt hpe h5 hen2
            by_cases s1 : (p : Int) < lim
            · have k1b : decide ((p : Int) < lim) = true := by simpa using s1
              go_wp2_with (first
                | (go_at_call 53; ((with_reducible refine HPLX.out.mono ?_); rintro e _ ⟨rfl, rfl⟩))
                | fail)
              go_meet
              exact ⟨p, E, ec, dt, true, rfl, HPA, HEND⟩
            · have k1b : decide ((p : Int) < lim) = false := by simpa using s1
              go_wp2
              go_meet
              exact ⟨p, E, ec, dt, true, rfl, HPA, HEND⟩
      case rest =>
        obtain ⟨q, E, ec, dt, fin, rfl, HPA, HC⟩ := hcut
        rename World => wx
        have HHX := Lib.hid (H.out.next HPA.out.low)
        have HLT := Lib.hid H.out.lts
        have hGw : G < w.heap.size := HLT.out G (.inl rfl)
        by_cases hTa : T = a
        · have hq : q = a := by
            rcases HC.out with ⟨_, e, _⟩ | ⟨e, _⟩
            · exact e
            · omega
          obtain rfl : q = a := hq
          have HR := Lib.hid (HPN.out.no hTa)
          have yd := HPA.out.res.get
          have yf := HPA.out.res.frozen
          have lr := HPA.out.res.lt
          have HFIN : Hid (∀ wy, Stays wx wy (fun k => k = w.heap.size) → PolRes w B G (sd.poll s) kl D dc K kc (.returned (.agg #[.int .i64 0, .int .i64 0, .slice none 0 0, .bool false, .bool false, .bool true, .int .i64 0])) wy) := Lib.hid (fun wy hs => by
            rw [HR.out]
            exact ⟨none, 0, td, rfl, Own.nil _ _ _ _, HHX.out.stays hs (fun k hk e => by have := HLT.out k hk; omega), (Stays.of_below HPA.out.low _).trans hs (fun k hk e => by omega)⟩)
          clear HHE HPL HC hTa
          go_wp2
          refine bodyPost_ret (v := .agg #[.int .i64 0, .int .i64 0, .slice none 0 0, .bool false, .bool false, .bool true, .int .i64 0]) (by simp [results, Try.results54, go_sem, *]) rfl (HFIN.out _ ?_)
          exact Stays.seven _ _ _ _ _ _ _ _ _
        · have hle := HPN.out.le
          have haT : a < T := by omega
          obtain ⟨hq, hdt, hfin⟩ : q = N + (if fin = true then 1 else 0) ∧ dt = (s.data.drop a).take (N - a) ∧ fin = decide (N = s.data.length ∧ N < T) := by
            rcases HC.out with ⟨e, _⟩ | ⟨_, e⟩
            · exact absurd e hTa
            · exact e
          have hqi : (q : Int) = N + sd.fin1 fin := by rw [hq]; cases fin <;> simp [sd.fin1]
          have hqa : a < q := by
            have h := HPN.out.more haT
            rw [hq, hfin]
            by_cases c : N = s.data.length ∧ N < T
            · rw [decide_eq_true c]; rw [if_pos c] at h; simpa using h
            · rw [decide_eq_false c]; rw [if_neg c] at h; simpa using h
          have HR : Hid (sd.poll s = (⟨0, a, dt, fin, b, false, 0⟩, if b = true then { s with again := (q : Int) } else { s with next := (q : Int), again := (q : Int) })) := Lib.hid (by
            have h := HPN.out.yes haT
            rw [← hfin, ← hdt, ← hqi] at h
            exact h)
          have e1 : (q == a) = false := by simp; omega
          have e2 : ((q : Int) == (a : Int)) = false := by simp; omega
          have f3 := HHX.out.at_.blk.frozen 3
          have f5 := HHX.out.at_.blk.frozen 5
          have c3 := HHX.out.at_.blk.get 3
          have c5 := HHX.out.at_.blk.get 5
          simp only [List.getElem?_toArray, List.getElem?_cons_succ, List.getElem?_cons_zero] at c3 c5
          have hGx := HHX.out.at_.blk.lt
          have HQA := Lib.hid hqa
          clear HHE HPL HC hTa hq hdt hfin hqi hqa
          cases b with
          | true =>
            go_upto_region 22 with (fail)
            generalize hwy : World.setCell wx _ _ = wy
            have st : Stays wx wy (fun k => k = G) := by rw [← hwy]; exact Stays.set _ _ _ _
            have HO : Hid (OAt wy B G s.data s.closed s.edge s.next kl q D dc K kc) := Lib.hid (by rw [← hwy]; exact HHX.out.at_.putTodo q)
            have HST := Lib.hid st
            have hbx := HPA.out.box.stays st (by omega)
            have hrx := HPA.out.res.stays st (by omega)
            have zd := hbx.get
            have ze := hbx.frozen
            have yd := hrx.get
            have yf := hrx.frozen
            have lb := hbx.lt
            have lr := hrx.lt
            have HOW := Lib.hid (HPA.out.own.stays st (fun k hk e => by have := (HPA.out.own.lt k hk).1; omega))
            have HFIN : Hid (∀ wz, Stays wy wz (fun k => k = w.heap.size) → PolRes w B G (sd.poll s) kl D dc K kc (.returned (.agg #[.int .i64 0, .int .i64 a, .slice E dt.length ec, .bool fin, .bool true, .bool false, .int .i64 0])) wz) := Lib.hid (fun wz hs => by
              rw [HR.out, if_pos rfl]
              refine ⟨E, ec, q, rfl, (HOW.out.stays hs (fun k hk e => by have := (HOW.out.lt k hk).1; omega)).base_le (by omega), ⟨HO.out.stays hs (fun k hk e => by have := HLT.out k hk; omega), H.out.knows, H.out.len, by omega, Int.le_refl _, fun x x1 x2 => ?_⟩, ((Stays.of_below HPA.out.low _).comp HST.out).trans hs (fun k hk e => by omega)⟩
              have x2' : x < (q : Int) := x2
              omega)
            clear hwy st hbx hrx f3 f5 c3 c5
            go_wp2
            refine bodyPost_ret (v := .agg #[.int .i64 0, .int .i64 a, .slice E dt.length ec, .bool fin, .bool true, .bool false, .int .i64 0]) (by simp [results, Try.results54, go_sem, *]) rfl (HFIN.out _ ?_)
            exact Stays.seven _ _ _ _ _ _ _ _ _
          | false =>
            have hne : s.next ≤ (q : Int) := by
              have h1 := HB.out
              have h2 := HN.out
              have h3 := HQA.out
              simp at h1
              omega
            have HNE := Lib.hid hne
            clear hne
            go_upto_region 22 with (fail)
            generalize hwy : World.setCell (World.setCell wx _ _) _ _ = wy
            have st : Stays wx wy (fun k => k = G) := by rw [← hwy]; exact (Stays.set _ _ _ _).comp (Stays.set _ _ _ _)
            have HO : Hid (OAt wy B G s.data s.closed s.edge q kl q D dc K kc) := Lib.hid (by rw [← hwy]; exact (HHX.out.at_.putSent q).putTodo q)
            have HST := Lib.hid st
            have hbx := HPA.out.box.stays st (by omega)
            have hrx := HPA.out.res.stays st (by omega)
            have zd := hbx.get
            have ze := hbx.frozen
            have yd := hrx.get
            have yf := hrx.frozen
            have lb := hbx.lt
            have lr := hrx.lt
            have HOW := Lib.hid (HPA.out.own.stays st (fun k hk e => by have := (HPA.out.own.lt k hk).1; omega))
            have HFIN : Hid (∀ wz, Stays wy wz (fun k => k = w.heap.size) → PolRes w B G (sd.poll s) kl D dc K kc (.returned (.agg #[.int .i64 0, .int .i64 a, .slice E dt.length ec, .bool fin, .bool false, .bool false, .int .i64 0])) wz) := Lib.hid (fun wz hs => by
              rw [HR.out, if_neg (by simp)]
              refine ⟨E, ec, q, rfl, (HOW.out.stays hs (fun k hk e => by have := (HOW.out.lt k hk).1; omega)).base_le (by omega), ⟨HO.out.stays hs (fun k hk e => by have := HLT.out k hk; omega), H.out.knows, Int.le_trans H.out.len HNE.out, by omega, Int.le_refl _, fun x x1 x2 => ?_⟩, ((Stays.of_below HPA.out.low _).comp HST.out).trans hs (fun k hk e => by omega)⟩
              have x2' : x < (q : Int) := x2
              omega)
            clear hwy st hbx hrx f3 f5 c3 c5
            go_wp2
            refine bodyPost_ret (v := .agg #[.int .i64 0, .int .i64 a, .slice E dt.length ec, .bool fin, .bool false, .bool false, .int .i64 0]) (by simp [results, Try.results54, go_sem, *]) rfl (HFIN.out _ ?_)
            exact Stays.seven _ _ _ _ _ _ _ _ _
end Go.Proofs.Ytdldfllllgogoaa
