/- The reference of tree: what an act answers; an act that is refused at once. No condition. -/
import Derived.Test.YtlcjdlnhniemcaaDoorMgI
import Derived.Test.YtlcjdlnhniemcaaDoorTree13
namespace Go.Proofs.YtlcjdlnhniemcaaDoor
open Go.RowKit
set_option linter.unusedSimpArgs false
set_option linter.unusedVariables false

/-- what an act answers; the nodes behind it -/
def RAct (w : World) (B Wb M g : Nat) (r : List tr.Item × Seen) (e : Ending) (w' : World) : Prop :=
  ∃ cs g' c' ia', e = .returned (.agg cs.toArray) ∧ Seen.rep.rep w' (fun k => w.heap.size ≤ k ∧ k < w'.heap.size ∧ ¬ WF Wb g' k) r.2 cs ∧ WdAt w' B Wb M r.1 g' c' ia' ∧ Stays w w' (WF Wb g) ∧ ∀ k, WF Wb g' k → WF Wb g k ∨ w.heap.size ≤ k
def ref.z0 : Array Value := #[.int .i64 0, .int .i64 0, .int .i64 0, .slice none 0 0, .slice none 0 0]
theorem seenNeItem : 66 ≠ 31 := by decide
theorem seenNeWoods : 69 ≠ 31 := by decide
theorem u8NeSeen : 5 ≠ 31 := by decide
section
variable {w w1 w2 w' : World} {B Wb M M' R g c : Nat} {W W' : List tr.Item} {ia : List ItA}
/-- the answer's block is turned -/
theorem WdAt.setSeen (h : WdAt w B Wb M W g c ia) (hz : BlkA w R 31 ref.z0) (hs : Stays w w' (fun k => k = R)) : WdAt w' B Wb M W g c ia :=
  h.staysF hs (h.blk.two hz seenNeWoods) (fun e => hz.apart h.own seenNeItem (by rw [e]; rfl)) fun x hx k hk e => hz.apart (h.rows x hx) u8NeSeen (by rw [hk, e])
theorem ROut.lift (h : ROut w1 w2 B Wb M W' g) (hb : Below w.heap.size w w1) : ROut w w2 B Wb M W' g := by
  obtain ⟨g', c', ia', h1, h2, h3⟩ := h
  exact ⟨g', c', ia', h1, (Stays.of_below hb _).comp h2, fun k hk => (h3 k hk).imp id fun h => Nat.le_trans hb.size h⟩
theorem ROut.then (h : ROut w w1 B Wb M W' g) (hb : Below w1.heap.size w1 w2) : ROut w w2 B Wb M W' g := by
  obtain ⟨g', c', ia', h1, h2, h3⟩ := h
  exact ⟨g', c', ia', h1.next hb, h2.comp (Stays.of_below hb _), h3⟩
theorem ROut.stays (h : ROut w w1 B Wb M W' g) : Stays w w1 (WF Wb g) := by
  obtain ⟨g', c', ia', h1, h2, h3⟩ := h
  exact h2
/-- no rows in the answer -/
theorem RAct.plain (hR : w.heap.size ≤ R) (s : Seen) (hd : s.data = []) (hn : s.names = []) (h1 : ROut w w2 B Wb M W' g) (hz : BlkA w2 R 31 ref.z0) (hs : Stays w2 w' (fun k => k = R)) :
    RAct w B Wb M g (W', s) (.returned (.agg #[.int .i64 s.code, .int .i64 s.kind, .int .i64 s.size, .slice none 0 0, .slice none 0 0])) w' := by
  obtain ⟨g', c', ia', k1, k2, k3⟩ := h1
  refine ⟨[.int .i64 s.code, .int .i64 s.kind, .int .i64 s.size, .slice none 0 0, .slice none 0 0], g', c', ia', rfl, Seen.rep_iff.2 ⟨none, 0, none, 0, by rw [hd, hn]; rfl, by rw [hd]; exact ⟨Nat.le_refl _, Nat.zero_le _, .inl rfl⟩, by rw [hn]; exact ⟨Nat.le_refl _, Nat.zero_le _, .inl rfl⟩⟩, k1.setSeen hz hs, k2.trans hs (fun k hk e => by omega), k3⟩
/-- a row of names, or of bytes, in the answer -/
theorem RAct.rows (h : WdAt w B Wb M W g c ia) (hb : Below w.heap.size w w1) (hR : w.heap.size ≤ R ∧ R < w1.heap.size) (s : Seen) {A1 A2 : Option Addr} {c1 c2 : Nat} (hb2 : Below w1.heap.size w1 w2) (hz : BlkA w2 R 31 ref.z0)
    (h1 : SlRep Rep.u8 w2 (fun k => w1.heap.size ≤ k ∧ k < w2.heap.size) s.data A1 c1) (h2 : SlRep Rep.str w2 (fun k => w1.heap.size ≤ k ∧ k < w2.heap.size) s.names A2 c2) (hs : Stays w2 w' (fun k => k = R)) :
    RAct w B Wb M g (W, s) (.returned (.agg #[.int .i64 s.code, .int .i64 s.kind, .int .i64 s.size, .slice A1 s.data.length c1, .slice A2 s.names.length c2])) w' := by
  have h3 := (h.next hb).next hb2
  have far : ∀ k, (w1.heap.size ≤ k ∧ k < w2.heap.size) → ((w.heap.size ≤ k ∧ k < w'.heap.size ∧ ¬ WF Wb g k) ∧ w'.heap[k]? = w2.heap[k]?) := fun k hk => ⟨⟨by have := hb.size; omega, Nat.lt_of_lt_of_le hk.2 hs.size, fun e => by have := (h.lt e).2; have := hb.size; omega⟩, hs.block k hk.2 (by omega)⟩
  refine ⟨[.int .i64 s.code, .int .i64 s.kind, .int .i64 s.size, .slice A1 s.data.length c1, .slice A2 s.names.length c2], g, c, ia, rfl, Seen.rep_iff.2 ⟨A1, c1, A2, c2, rfl, h1.keep far, h2.keep far⟩, h3.setSeen hz hs, ?_, fun k hk => .inl hk⟩
  refine ((Stays.of_below hb _).comp (Stays.of_below hb2 _)).trans hs fun k hk e => ?_
  omega
end
/-- the boxes of the call -/
structure RBx (w w1 : World) (k : Int) (pl tl : List UInt8) (a n : Int) (X : Option Addr) (m xc : Nat) : Prop where
  low : Below w.heap.size w w1
  act : BlkA w1 w.heap.size 36 #[.int .i64 k, .string (strOf pl), .string (strOf tl), .int .i64 a, .int .i64 n, .slice X m xc]
  seen : BlkA w1 (w.heap.size + 1) 31 ref.z0
  size : w1.heap.size = w.heap.size + 1 + 1
theorem RBx.new (w : World) (k : Int) (pl tl : List UInt8) (a n : Int) (X : Option Addr) (m xc : Nat) : RBx w ((w.alloc (.cells #[.int .i64 k, .string (strOf pl), .string (strOf tl), .int .i64 a, .int .i64 n, .slice X m xc] 36)).alloc (.cells #[.int .i64 0, .int .i64 0, .int .i64 0, .slice none 0 0, .slice none 0 0] 31)) k pl tl a n X m xc := by
  refine ⟨balloc (balloc (bself w) _) _, (BlkA.new _ _ _).alloc _, ?_, by simp⟩
  have h := BlkA.new (w.alloc (.cells #[.int .i64 k, .string (strOf pl), .string (strOf tl), .int .i64 a, .int .i64 n, .slice X m xc] 36)) 31 #[.int .i64 0, .int .i64 0, .int .i64 0, .slice none 0 0, .slice none 0 0]
  rw [World.size_alloc] at h
  exact h
theorem ref.z_get {w : World} {R : Nat} (h : BlkA w R 31 ref.z0) : ∀ j, w.cell? ⟨R, j, none⟩ = (#[.int .i64 0, .int .i64 0, .int .i64 0, .slice none 0 0, .slice none 0 0] : Array Value)[j]? := h.get

set_option maxRecDepth 100000 in
set_option maxHeartbeats 8000000 in
theorem ref_Act_no {B Wb M : Nat} {W : List tr.Item} {g c0 : Nat} {ia : List ItA} (ak : Int) (pl_ tl : List UInt8) (aa an : Int) (ad : List UInt8) (X : Option Addr) (xc : Nat) (w : World) (h : WdAt w B Wb M W g c0 ia) (hpl : pl_.length ≤ 140737488351232) (htl : tl.length ≤ 140737488351232)
    (hno : (ak < 1 ∨ 10 < ak) ∨ (ak = 10 ∧ (tl.length = 0 ∨ 200 < tl.length)) ∨ ∃ c, pa.walk [] pl_ = .error c) :
    Calls Tryd.prog 10 #[.pointer (some ⟨Wb, 0, none⟩), .agg #[.int .i64 ak, .string (strOf pl_), .string (strOf tl), .int .i64 aa, .int .i64 an, .slice X ad.length xc]] w (RAct w B Wb (M + 1) g (tr.act W ⟨ak, strOf pl_, strOf tl, aa, an, ad⟩)) := by
  have HX := RBx.new w ak pl_ tl aa an X ad.length xc
  obtain ⟨w1, hw1⟩ : ∃ w1, w1 = ((w.alloc (.cells #[.int .i64 ak, .string (strOf pl_), .string (strOf tl), .int .i64 aa, .int .i64 an, .slice X ad.length xc] 36)).alloc (.cells #[.int .i64 0, .int .i64 0, .int .i64 0, .slice none 0 0, .slice none 0 0] 31)) := ⟨_, rfl⟩
  rw [← hw1] at HX
  have HX := Lib.hid HX
  have H := Lib.hid h
  have hd' := HX.out.act.get
  have lh := HX.out.act.lt
  have zd := ref.z_get HX.out.seen
  have ze := HX.out.seen.frozen
  have lz := HX.out.seen.lt
  have HCS : Hid (∀ c, tr.act W ⟨ak, strOf pl_, strOf tl, aa, an, ad⟩ = (W, tr.seen c) → ∀ w4 w', Below w1.heap.size w1 w4 → Stays w4 w' (fun k => k = w.heap.size + 1) → RAct w B Wb (M + 1) g (tr.act W ⟨ak, strOf pl_, strOf tl, aa, an, ad⟩) (.returned (.agg #[.int .i64 c, .int .i64 0, .int .i64 0, .slice none 0 0, .slice none 0 0])) w') := Lib.hid (fun c he w4 w' hb hs => by
    rw [he]
    exact RAct.plain (by omega) (tr.seen c) rfl rfl (ROut.same H.out (HX.out.low.trans (hb.mono HX.out.low.size)) (Nat.le_succ M)) (HX.out.seen.next hb) hs)
  have HCL := Lib.hid (fun w2 => ref_PathClean pl_ w2 hpl)
  have hs := strOf_size tl
  clear h
  by_cases hbad : ak < 1 ∨ 10 < ak
  · have HE := Lib.hid (HCS.out 3 (tr.act_kind hbad))
    have hc : ak < 1 ∨ (¬ ak < 1 ∧ 10 < ak) := by omega
    clear HCS hbad hno
    go_enter Tryd.func10, Tryd.ntmps10
    go_upto_region 1 with (fail)
    rw [← hw1]
    clear hw1
    rcases hc with h1 | ⟨h1, h2⟩
    all_goals
      go_wp2
      refine bodyPost_ret (v := .agg #[.int .i64 3, .int .i64 0, .int .i64 0, .slice none 0 0, .slice none 0 0]) (by simp [results, Tryd.results10, go_sem, *]) rfl (HE.out _ _ (bself _) ?_)
      exact Stays.fiveS _ _ _ _ _ _ _
  · have b1 : ¬ ak < 1 := by omega
    have b2 : ¬ 10 < ak := by omega
    by_cases hsz : ak = 10 ∧ (tl.length = 0 ∨ 200 < tl.length)
    · have HE := Lib.hid (HCS.out 1 (tr.act_size hbad hsz))
      obtain ⟨rfl, hsz⟩ := hsz
      clear HCS hbad hno
      go_enter Tryd.func10, Tryd.ntmps10
      go_upto_region 1 with (fail)
      rw [← hw1]
      clear hw1
      rcases hsz with h1 | h1
      · obtain rfl : tl = [] := List.eq_nil_of_length_eq_zero h1
        go_wp2
        refine bodyPost_ret (v := .agg #[.int .i64 1, .int .i64 0, .int .i64 0, .slice none 0 0, .slice none 0 0]) (by simp [results, Tryd.results10, go_sem, *]) rfl (HE.out _ _ (bself _) ?_)
        exact Stays.fiveS _ _ _ _ _ _ _
      · have hne : (tl == []) = false := pa.str_no (fun e => by rw [e] at h1; simp at h1)
        go_wp2
        refine bodyPost_ret (v := .agg #[.int .i64 1, .int .i64 0, .int .i64 0, .slice none 0 0, .slice none 0 0]) (by simp [results, Tryd.results10, go_sem, *]) rfl (HE.out _ _ (bself _) ?_)
        exact Stays.fiveS _ _ _ _ _ _ _
    · obtain ⟨c, hw⟩ : ∃ c, pa.walk [] pl_ = .error c := by
        rcases hno with h | h | h
        · exact absurd h hbad
        · exact absurd h hsz
        · exact h
      have hq : (c != 0) = true := by simpa using pa.walk_err hw
      rw [hw] at HCL
      have HCL : Hid (∀ w2, Calls Tryd.prog 20 #[.string (strOf pl_)] w2 fun e w' => Below w2.heap.size w2 w' ∧ ∃ A2 c2, e = .returned (.tuple #[.slice A2 0 c2, .int .i64 c])) := Lib.hid (fun w2 => (HCL.out w2).mono fun e w' ⟨A2, c2, h1, _, h3⟩ => ⟨h3, A2, c2, h1⟩)
      have HE := Lib.hid (HCS.out c (tr.act_walk hbad hsz hw))
      have hsz' : ak = 10 → (tl == []) = false ∧ ¬ (200 : Int) < (tl.length : Int) := fun h => ⟨pa.str_no (fun e => hsz ⟨h, .inl (by rw [e]; rfl)⟩), fun e => hsz ⟨h, .inr (by omega)⟩⟩
      clear HCS hbad hsz hw hno
      go_enter Tryd.func10, Tryd.ntmps10
      go_upto_region 1 with (fail)
      rw [← hw1]
      clear hw1
      go_upto_region 3 with (fail)
      go_cut [45] (fun s45 wx => s45 = .bool false ∧ w1 = wx)
      case first =>
        by_cases k10 : ak = 10
        · obtain ⟨q1, q2⟩ := hsz' k10
          subst k10
          clear hsz'
          go_wp2
          go_meet
          exact ⟨rfl, rfl⟩
        · have k10' : (ak == 10) = false := by simpa using k10
          clear hsz'
          go_wp2
          go_meet
          exact ⟨rfl, rfl⟩
      case rest =>
        obtain ⟨rfl, rfl⟩ := hcut
        clear hsz'
        go_wp2_with (first
          | (go_at_call 20; ((with_reducible refine (HCL.out _).mono ?_); rintro e w2 ⟨hb2, A2, c2, rfl⟩; have HB2 := Lib.hid hb2; have HZ2 := Lib.hid (HX.out.seen.next hb2); have zd2 := ref.z_get HZ2.out; have ze2 := HZ2.out.frozen; have lz2 := HZ2.out.lt; clear hb2))
          | fail)
        refine bodyPost_ret (v := .agg #[.int .i64 c, .int .i64 0, .int .i64 0, .slice none 0 0, .slice none 0 0]) (by simp [results, Tryd.results10, go_sem, *]) rfl (HE.out _ _ HB2.out ?_)
        exact Stays.fiveS _ _ _ _ _ _ _
end Go.Proofs.YtlcjdlnhniemcaaDoor
