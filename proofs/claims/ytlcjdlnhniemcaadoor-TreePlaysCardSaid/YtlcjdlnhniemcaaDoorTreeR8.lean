/- The reference of tree: acts that make a node. No condition. -/
import Derived.Test.YtlcjdlnhniemcaaDoorTreeR7
namespace Go.Proofs.YtlcjdlnhniemcaaDoor
open Go.RowKit
set_option linter.unusedSimpArgs false
set_option linter.unusedVariables false

theorem flatMap_set1 {α : Type} {f : α → List Value} {size : Nat} (hf : ∀ a, (f a).length = size) : ∀ (l : List α) (i : Nat) (x y : α) (j : Nat) (v : Value), l[i]? = some x → j < size → f y = (f x).set j v → (l.set i y).flatMap f = (l.flatMap f).set (i * size + j) v
  | [], i, x, y, j, v, h, _, _ => by simp at h
  | a :: r, 0, x, y, j, v, h, hj, e => by
    simp only [List.getElem?_cons_zero, Option.some.injEq] at h
    subst h
    rw [List.set_cons_zero, List.flatMap_cons, List.flatMap_cons, Nat.zero_mul, Nat.zero_add, List.set_append_left _ _ (by rw [hf]; exact hj), e]
  | a :: r, i + 1, x, y, j, v, h, hj, e => by
    have ih := flatMap_set1 hf r i x y j v (by simpa using h) hj e
    rw [List.set_cons_succ, List.flatMap_cons, List.flatMap_cons, ih, List.set_append_right _ _ (by rw [hf, Nat.succ_mul]; omega), hf, show (i + 1) * size + j - size = i * size + j by rw [Nat.succ_mul]; omega]
theorem WdAt.turn {w w' : World} {B Wb M n : Nat} {W : List tr.Item} {g c : Nat} {ia : List ItA} (h : WdAt w B Wb M W g c ia) (hn : n < W.length) {x : tr.Item} {A' : Option Addr} {c' : Nat}
    (ho : Own w' B 66 6 (some ⟨g, 0, none⟩) W.length c ((ia.set n ⟨x, A', c'⟩).flatMap ItA.cells)) (hI : tr.Inv (W.set n x)) (hs : Stays w w' (fun k => k = g)) (hr : Own w' B 5 1 A' x.data.length c' (x.data.map u8v)) : ROut w w' B Wb M (W.set n x) g := by
  refine ⟨g, c, ia.set n ⟨x, A', c'⟩, ⟨hI, by rw [List.map_set, h.eq], by rw [List.length_set]; exact h.blk.stays hs (fun e => h.ne e.symm), by rw [List.length_set]; exact ho, fun y hy => ?_, h.lo, by rw [List.length_set]; exact h.few⟩, hs.mono fun k _ e => .inr e, fun k hk => .inl hk⟩
  rcases List.mem_or_eq_of_mem_set hy with hy | rfl
  · exact (h.rows y hy).stays hs fun k hk e => (h.rowFar hy hk).2 e
  · exact hr
theorem WdAt.row_keep {w w' : World} {B Wb M n : Nat} {W : List tr.Item} {g c : Nat} {ia : List ItA} (h : WdAt w B Wb M W g c ia) {A : Option Addr} {d : Nat} (hi : ia[n]? = some ⟨tr.it W n, A, d⟩) (hs : Stays w w' (fun k => k = g)) : Own w' B 5 1 A (tr.it W n).data.length d ((tr.it W n).data.map u8v) :=
  (h.rows _ (List.mem_of_getElem? hi)).stays hs fun k hk e => (h.rowFar (List.mem_of_getElem? hi) hk).2 e

set_option maxRecDepth 100000 in
set_option maxHeartbeats 8000000 in
theorem ref_Act_add {B Wb M : Nat} {W : List tr.Item} {g c0 : Nat} {ia : List ItA} (ak : Int) (pl_ tl : List UInt8) (aa an : Int) (ad : List UInt8) (X : Option Addr) (xc : Nat) (w : World) (h : WdAt w B Wb M W g c0 ia) (hM : M ≤ 1000000) (hpl : pl_.length ≤ 140737488351232) (htl : tl.length ≤ 140737488351232)
    (hk : ak = 1 ∨ ak = 2 ∨ ak = 10) (hsz : ¬ (ak = 10 ∧ (tl.length = 0 ∨ 200 < tl.length))) {names : List (List UInt8)} (hw : pa.walk [] pl_ = .ok names) :
    Calls Tryd.prog 10 #[.pointer (some ⟨Wb, 0, none⟩), .agg #[.int .i64 ak, .string (strOf pl_), .string (strOf tl), .int .i64 aa, .int .i64 an, .slice X ad.length xc]] w (RAct w B Wb (M + 1) g (tr.act W ⟨ak, strOf pl_, strOf tl, aa, an, ad⟩)) := by
  have HX := RBx.new w ak pl_ tl aa an X ad.length xc
  obtain ⟨w1, hw1⟩ : ∃ w1, w1 = ((w.alloc (.cells #[.int .i64 ak, .string (strOf pl_), .string (strOf tl), .int .i64 aa, .int .i64 an, .slice X ad.length xc] 36)).alloc (.cells #[.int .i64 0, .int .i64 0, .int .i64 0, .slice none 0 0, .slice none 0 0] 31)) := ⟨_, rfl⟩
  rw [← hw1] at HX
  have HX := Lib.hid HX
  have H := Lib.hid h
  have hd' := HX.out.act.get
  have lh := HX.out.act.lt
  have HACT := Lib.hid (tr.act_on (W := W) (at_ := aa) (count := an) (data := ad) (show ¬ (ak < 1 ∨ 10 < ak) by omega) hsz hw)
  have HNR : Hid (¬ WF Wb g (w.heap.size + 1)) := Lib.hid (fun e => by have := (h.lt e).2; omega)
  have HCS : Hid (∀ W' c, tr.act W ⟨ak, strOf pl_, strOf tl, aa, an, ad⟩ = (W', tr.seen c) → ∀ w4 w5 w', Below w1.heap.size w1 w4 → ROut w4 w5 B Wb (M + 1) W' g → Stays w5 w' (fun k => k = w.heap.size + 1) → RAct w B Wb (M + 1) g (tr.act W ⟨ak, strOf pl_, strOf tl, aa, an, ad⟩) (.returned (.agg #[.int .i64 c, .int .i64 0, .int .i64 0, .slice none 0 0, .slice none 0 0])) w') := Lib.hid (fun W' c he w4 w5 w' hb hT hs => by
    rw [he]
    exact RAct.plain (by omega) (tr.seen c) rfl rfl (hT.lift (HX.out.low.trans (hb.mono HX.out.low.size))) ((HX.out.seen.next hb).stays hT.stays HNR.out) hs)
  have HCL := Lib.hid (fun w2 => ref_PathClean pl_ w2 hpl)
  rw [hw] at HCL
  have HCL : Hid (∀ w2, Calls Tryd.prog 20 #[.string (strOf pl_)] w2 fun e w' => Below w2.heap.size w2 w' ∧ ∃ A2 c2, e = .returned (.tuple #[.slice A2 names.length c2, .int .i64 0]) ∧ NmRep w' A2 c2 names) := Lib.hid (fun w2 => (HCL.out w2).mono fun e w' ⟨A2, c2, h1, h2, h3⟩ => ⟨h3, A2, c2, h1, (NmRep.of h2).2⟩)
  have HNM := Lib.hid (pa.walk_nms hw Nms.nil)
  have hs := strOf_size tl
  have HADD := Lib.hid (fun kd tg (h1 : kd = 1 ∨ kd = 2 ∨ kd = 3) (h2 : tg.length ≤ 200) w2 A2 c2 (hb : Below w.heap.size w w2) (hn : NmRep w2 A2 c2 names) => ref_add names A2 c2 kd tg w2 (h.next hb) hM hn HNM.out h1 h2)
  have b1 : ¬ ak < 1 := by omega
  have b2 : ¬ 10 < ak := by omega
  clear h hw
  rcases hk with rfl | rfl | rfl
  · have HADD := Lib.hid (HADD.out 1 [] (by decide) (Nat.zero_le _))
    obtain ⟨r, hr⟩ : ∃ r, r = tr.add W names ⟨1, 0, [], [], [], false⟩ := ⟨_, rfl⟩
    rw [← hr] at HADD
    have HADD : Hid (∀ w2 A2 c2, Below w.heap.size w w2 → NmRep w2 A2 c2 names → Calls Tryd.prog 21 #[.pointer (some ⟨Wb, 0, none⟩), .slice A2 names.length c2, .agg #[.int .i64 1, .int .i64 0, .string ⟨#[]⟩, .slice none 0 0, .string ⟨#[]⟩, .bool false]] w2 fun e w' => e = .returned (.int .i64 r.2) ∧ ROut w2 w' B Wb (M + 1) r.1 g) := HADD
    have HE := Lib.hid (HCS.out r.1 r.2 (by rw [HACT.out, hr]; exact if_pos rfl))
    obtain ⟨rl, rc⟩ := r
    simp only at HE HADD
    clear HACT HCS hr hsz
    go_enter Tryd.func10, Tryd.ntmps10
    go_upto_region 1 with (fail)
    rw [← hw1]
    clear hw1
    go_wp2_with (first
      | (go_at_call 20; ((with_reducible refine (HCL.out _).mono ?_); rintro e w2 ⟨hb2, A2, c2, rfl, hn2⟩; have HB2 := Lib.hid hb2; have HN2 := Lib.hid hn2; have hd2 := (HX.out.act.next hb2).get; have lh2 := (HX.out.act.next hb2).lt; clear hb2 hn2))
      | (go_at_call 21; ((with_reducible refine (HADD.out w2 A2 c2 (HX.out.low.trans (HB2.out.mono HX.out.low.size)) HN2.out).mono ?_); rintro e w5 ⟨rfl, ht5⟩; have HT5 := Lib.hid ht5; have HZ5 := Lib.hid ((HX.out.seen.next HB2.out).stays ht5.stays HNR.out); have zd5 := ref.z_get HZ5.out; have ze5 := HZ5.out.frozen; have lz5 := HZ5.out.lt; clear ht5))
      | fail)
    refine bodyPost_ret (v := .agg #[.int .i64 rc, .int .i64 0, .int .i64 0, .slice none 0 0, .slice none 0 0]) (by simp [results, Tryd.results10, go_sem, *]) rfl (HE.out _ _ _ HB2.out HT5.out ?_)
    exact Stays.fiveS _ _ _ _ _ _ _
  · have HADD := Lib.hid (HADD.out 2 [] (by decide) (Nat.zero_le _))
    obtain ⟨r, hr⟩ : ∃ r, r = tr.add W names ⟨2, 0, [], [], [], false⟩ := ⟨_, rfl⟩
    rw [← hr] at HADD
    have HADD : Hid (∀ w2 A2 c2, Below w.heap.size w w2 → NmRep w2 A2 c2 names → Calls Tryd.prog 21 #[.pointer (some ⟨Wb, 0, none⟩), .slice A2 names.length c2, .agg #[.int .i64 2, .int .i64 0, .string ⟨#[]⟩, .slice none 0 0, .string ⟨#[]⟩, .bool false]] w2 fun e w' => e = .returned (.int .i64 r.2) ∧ ROut w2 w' B Wb (M + 1) r.1 g) := HADD
    have HE := Lib.hid (HCS.out r.1 r.2 (by rw [HACT.out, hr, if_neg (by decide)]; exact if_pos rfl))
    obtain ⟨rl, rc⟩ := r
    simp only at HE HADD
    clear HACT HCS hr hsz
    go_enter Tryd.func10, Tryd.ntmps10
    go_upto_region 1 with (fail)
    rw [← hw1]
    clear hw1
    go_wp2_with (first
      | (go_at_call 20; ((with_reducible refine (HCL.out _).mono ?_); rintro e w2 ⟨hb2, A2, c2, rfl, hn2⟩; have HB2 := Lib.hid hb2; have HN2 := Lib.hid hn2; have hd2 := (HX.out.act.next hb2).get; have lh2 := (HX.out.act.next hb2).lt; clear hb2 hn2))
      | (go_at_call 21; ((with_reducible refine (HADD.out w2 A2 c2 (HX.out.low.trans (HB2.out.mono HX.out.low.size)) HN2.out).mono ?_); rintro e w5 ⟨rfl, ht5⟩; have HT5 := Lib.hid ht5; have HZ5 := Lib.hid ((HX.out.seen.next HB2.out).stays ht5.stays HNR.out); have zd5 := ref.z_get HZ5.out; have ze5 := HZ5.out.frozen; have lz5 := HZ5.out.lt; clear ht5))
      | fail)
    refine bodyPost_ret (v := .agg #[.int .i64 rc, .int .i64 0, .int .i64 0, .slice none 0 0, .slice none 0 0]) (by simp [results, Tryd.results10, go_sem, *]) rfl (HE.out _ _ _ HB2.out HT5.out ?_)
    exact Stays.fiveS _ _ _ _ _ _ _
  · have htl2 : tl.length ≤ 200 := Nat.le_of_not_lt fun h => hsz ⟨rfl, .inr h⟩
    have hne : (tl == []) = false := pa.str_no (fun e => hsz ⟨rfl, .inl (by rw [e]; rfl)⟩)
    have hgt : ¬ (200 : Int) < (tl.length : Int) := by omega
    have HADD := Lib.hid (HADD.out 3 tl (by decide) htl2)
    obtain ⟨r, hr⟩ : ∃ r, r = tr.add W names ⟨3, 0, [], [], tl, false⟩ := ⟨_, rfl⟩
    rw [← hr] at HADD
    have HE := Lib.hid (HCS.out r.1 r.2 (by rw [HACT.out, hr, if_neg (by decide), if_neg (by decide)]; exact if_pos rfl))
    obtain ⟨rl, rc⟩ := r
    simp only at HE HADD
    clear HACT HCS hr hsz
    go_enter Tryd.func10, Tryd.ntmps10
    go_upto_region 1 with (fail)
    rw [← hw1]
    clear hw1
    go_wp2_with (first
      | (go_at_call 20; ((with_reducible refine (HCL.out _).mono ?_); rintro e w2 ⟨hb2, A2, c2, rfl, hn2⟩; have HB2 := Lib.hid hb2; have HN2 := Lib.hid hn2; have hd2 := (HX.out.act.next hb2).get; have lh2 := (HX.out.act.next hb2).lt; clear hb2 hn2))
      | (go_at_call 21; ((with_reducible refine (HADD.out w2 A2 c2 (HX.out.low.trans (HB2.out.mono HX.out.low.size)) HN2.out).mono ?_); rintro e w5 ⟨rfl, ht5⟩; have HT5 := Lib.hid ht5; have HZ5 := Lib.hid ((HX.out.seen.next HB2.out).stays ht5.stays HNR.out); have zd5 := ref.z_get HZ5.out; have ze5 := HZ5.out.frozen; have lz5 := HZ5.out.lt; clear ht5))
      | fail)
    refine bodyPost_ret (v := .agg #[.int .i64 rc, .int .i64 0, .int .i64 0, .slice none 0 0, .slice none 0 0]) (by simp [results, Tryd.results10, go_sem, *]) rfl (HE.out _ _ _ HB2.out HT5.out ?_)
    exact Stays.fiveS _ _ _ _ _ _ _
end Go.Proofs.YtlcjdlnhniemcaaDoor
