/- Package fetch: got. No condition. -/
import Derived.Test.YtdldfllllgogoaaFetch6
import Derived.Test.YtdldfllllgogoaaAppz
import Derived.Test.YtdldfllllgogoaaColl
namespace Go.Proofs.Ytdldfllllgogoaa
open Go.RowKit
set_option linter.unusedSimpArgs false

/-- what the fetcher consists of -/
def InF (F : Nat) (A D : Option Addr) (k : Nat) : Prop := k = F ∨ blkOf A = some k ∨ blkOf D = some k
def GotRes (w : World) (B F : Nat) (s : ft.St) (g : Got) (A D : Option Addr) (e : Ending) (w' : World) : Prop :=
  ∃ A1 c1 D1 dc1 cs, e = .returned (.agg cs.toArray) ∧ FetAt w' B F (ft.got s g).1 A1 c1 D1 dc1 ∧ Next.rep.rep w' (fun k => w.heap.size ≤ k ∧ k < w'.heap.size ∧ ¬ InF F A1 D1 k) (ft.got s g).2 cs ∧
    Stays w w' (InF F A D) ∧ (∀ k, InF F A1 D1 k → InF F A D k ∨ w.heap.size ≤ k)
theorem flat_want : Flat Want.rep := fun _ _ _ _ _ h => Want.rep_iff.2 (Want.rep_iff.1 h)
theorem next_lit (w : World) (S : Nat → Prop) (e : Int) : Next.rep.rep w S ⟨e, [], false, []⟩ [.int .i64 e, .slice none 0 0, .bool false, .slice none 0 0] :=
  Next.rep_iff.2 ⟨none, 0, none, 0, rfl, ⟨Nat.le_refl _, Nat.zero_le _, .inl rfl⟩, ⟨Nat.le_refl _, Nat.zero_le _, .inl rfl⟩⟩
theorem ft.got_none {s : ft.St} {g : Got} (h : ft.index s.out ⟨g.at_, g.count⟩ = none) : ft.got s g = (s, ⟨7, [], false, []⟩) := by unfold ft.got; rw [h]
theorem ft.got_size {s : ft.St} {g : Got} {i : Nat} (h : ft.index s.out ⟨g.at_, g.count⟩ = some i) (hc : g.count < g.data.length) : ft.got s g = (s, ⟨1, [], false, []⟩) := by unfold ft.got; rw [h]; exact if_pos hc
theorem ft.got_ok {s : ft.St} {g : Got} {i : Nat} (h : ft.index s.out ⟨g.at_, g.count⟩ = some i) (hc : ¬ g.count < g.data.length) : ft.got s g = ft.on (ft.came s g i) (ft.rest g) := by unfold ft.got; rw [h]; exact if_neg hc

set_option maxRecDepth 100000 in
set_option maxHeartbeats 2000000 in
theorem fetch_got_no (s : ft.St) (g : Got) (er : Int) (G : Option Addr) (gc : Nat) (A D : Option Addr) (c dc B F : Nat) (w : World) (h : FetAt w B F s A c D dc) (hfew : s.out.length ≤ 6) (hd : g.data.length ≤ 140737488351232)
    (hno : er = 7 ∧ ft.index s.out ⟨g.at_, g.count⟩ = none ∨ er = 1 ∧ (∃ i, ft.index s.out ⟨g.at_, g.count⟩ = some i) ∧ g.count < g.data.length) :
    Calls Try.prog 18 #[.pointer (some ⟨F, 0, none⟩), .agg #[.int .i64 g.at_, .int .i64 g.count, .slice G g.data.length gc]] w (GotRes w B F s g A D) := by
  have HF := Lib.hid h
  have HR : Hid (ft.got s g = (s, ⟨er, [], false, []⟩)) := Lib.hid (by
    rcases hno with ⟨rfl, h⟩ | ⟨rfl, ⟨i, h⟩, hc⟩
    · exact ft.got_none h
    · exact ft.got_size h hc)
  have HFS : Hid (∀ wx, Below w.heap.size w wx → FetAt wx B F s A c D dc) := Lib.hid (fun wx hb => HF.out.stays (Stays.of_below hb (fun _ => False)) id (fun _ _ => id) (fun _ _ => id))
  have HX := Lib.hid (fun wx (hb : Below w.heap.size w wx) => fetch_idx s.out ⟨g.at_, g.count⟩ A c B wx (HFS.out wx hb).out (by omega))
  have hc0 := HF.out.box.cell0
  have hlF := HF.out.box.lt
  clear h
  have HEND : Hid (∀ wx, Below w.heap.size w wx → GotRes w B F s g A D (.returned (.agg #[.int .i64 er, .slice none 0 0, .bool false, .slice none 0 0])) wx) := Lib.hid (fun wx hb => by
    unfold GotRes
    rw [HR.out]
    exact ⟨A, c, D, dc, _, rfl, HFS.out wx hb, next_lit _ _ _, Stays.of_below hb _, fun k h => .inl h⟩)
  obtain ⟨w1, hw1⟩ : ∃ w1, w1 = ((w.alloc (.cells #[.int .i64 g.at_, .int .i64 g.count, .slice G g.data.length gc] 66)).alloc (.cells #[.int .i64 0, .slice none 0 0, .bool false, .slice none 0 0] 30)).alloc (.cells #[.int .i64 g.at_, .int .i64 g.count] 33) := ⟨_, rfl⟩
  have HB1 : Hid (Below w.heap.size w w1) := Lib.hid (by rw [hw1]; exact balloc (balloc (balloc (bself w) _) _) _)
  have hs1 : w1.heap.size = w.heap.size + 1 + 1 + 1 := by rw [hw1]; simp
  have HS1 := Lib.hid hs1
  have hN1 : Blk4 w1 (w.heap.size + 1) 30 (.int .i64 0) (.slice none 0 0) (.bool false) (.slice none 0 0) := by
    rw [hw1]
    have h := (Blk4.new (w.alloc (.cells #[.int .i64 g.at_, .int .i64 g.count, .slice G g.data.length gc] 66)) 30 (.int .i64 0) (.slice none 0 0) (.bool false) (.slice none 0 0)).alloc (.cells #[.int .i64 g.at_, .int .i64 g.count] 33)
    simpa using h
  have p1 : w1.cell? ⟨w.heap.size, 1, none⟩ = some (.int .i64 g.count) := by rw [hw1]; simp [go_sem]
  have p2 : w1.cell? ⟨w.heap.size, 2, none⟩ = some (.slice G g.data.length gc) := by rw [hw1]; simp [go_sem]
  have q0 : w1.cell? ⟨w.heap.size + 1 + 1, 0, none⟩ = some (.int .i64 g.at_) := by rw [hw1]; simp [go_sem]
  have q1 : w1.cell? ⟨w.heap.size + 1 + 1, 1, none⟩ = some (.int .i64 g.count) := by rw [hw1]; simp [go_sem]
  have c0 := (HB1.out.cell (p := ⟨F, 0, none⟩) hlF).trans hc0
  have lF1 : F < w1.heap.size := by omega
  have lG1 : w.heap.size < w1.heap.size := by omega
  have lN1 : w.heap.size + 1 < w1.heap.size := by omega
  have lW1 : w.heap.size + 1 + 1 < w1.heap.size := by omega
  have HN1 := Lib.hid hN1
  have HXB : Hid (∀ wx, Below w1.heap.size w1 wx → Below w.heap.size w wx) := Lib.hid (fun wx hb => bnext HB1.out hb)
  clear hc0 hN1 hs1 HF HFS
  go_enter Try.func18, Try.ntmps18
  go_upto_region 2 with fail
  rw [← hw1]
  clear hw1
  go_region_held3 (fun w' => w'.cell? ⟨F, 0, none⟩ = some (.slice A s.out.length c) ∧ w'.cell? ⟨w.heap.size + 1 + 1, 0, none⟩ = some (.int .i64 g.at_) ∧ w'.cell? ⟨w.heap.size + 1 + 1, 1, none⟩ = some (.int .i64 g.count)) ((go_keep; done))
    (first
      | (go_at_call 37; refine (HX.out _ (HXB.out _ (by repeat (first | (with_reducible exact Below.refl _ _) | (with_reducible assumption) | (with_reducible refine bset ?_ ?_ _) | (with_reducible refine balloc ?_ _) | (with_reducible refine Below.drew ?_) | (with_reducible refine bdrewN ?_ _) | (with_reducible refine bnext ?_ (by with_reducible assumption)) | exact Nat.le_refl _ | (simp; done) | omega | (simp; omega))))).mono ?_; rintro e w2 ⟨rfl, hb2⟩; have x1 := (hb2.cell (p := ⟨F, 0, none⟩) lF1).trans c0; have x2 := (hb2.cell (p := ⟨w.heap.size + 1 + 1, 0, none⟩) lW1).trans q0; have x3 := (hb2.cell (p := ⟨w.heap.size + 1 + 1, 1, none⟩) lW1).trans q1)
      | fail)
  all_goals
    have HB2 : Hid (Below w1.heap.size w1 w2) := Lib.hid (by repeat (first | (with_reducible exact Below.refl _ _) | (with_reducible assumption) | (with_reducible refine bset ?_ ?_ _) | (with_reducible refine balloc ?_ _) | (with_reducible refine Below.drew ?_) | (with_reducible refine bdrewN ?_ _) | (with_reducible refine bnext ?_ (by with_reducible assumption)) | exact Nat.le_refl _ | (simp; done) | omega | (simp; omega)))
    have r1 := (HB2.out.cell (p := ⟨w.heap.size, 1, none⟩) lG1).trans p1
    have r2 := (HB2.out.cell (p := ⟨w.heap.size, 2, none⟩) lG1).trans p2
    have hN2 := HN1.out.next HB2.out
    have n0 := hN2.cell0
    have n1 := hN2.cell1
    have n2 := hN2.cell2
    have n3 := hN2.cell3
    have f0 := hN2.frozen 0
    have f1 := hN2.frozen 1
    have f2 := hN2.frozen 2
    have f3 := hN2.frozen 3
    have hl2 : w1.heap.size ≤ w2.heap.size := HB2.out.size
    have lN2 : w.heap.size + 1 < w2.heap.size := by omega
    clear hN2 x1 x2 x3 hb2 HX c0 q0 q1 p1 p2
    rcases hno with ⟨rfl, hi⟩ | ⟨rfl, ⟨i, hi⟩, hcnt⟩
    · rw [hi]
      simp only [ft.idxI]
      go_wp2
      have hb2w := HXB.out _ HB2.out
      exact bodyPost_ret (v := .agg #[.int .i64 7, .slice none 0 0, .bool false, .slice none 0 0]) (by simp [results, Try.results18, go_sem, *]) rfl (HEND.out _ (by repeat (first | (with_reducible exact Below.refl _ _) | (with_reducible assumption) | (with_reducible refine bset ?_ ?_ _) | (with_reducible refine balloc ?_ _) | (with_reducible refine Below.drew ?_) | (with_reducible refine bdrewN ?_ _) | (with_reducible refine bnext ?_ (by with_reducible assumption)) | exact Nat.le_refl _ | (simp; done) | omega | (simp; omega))))
    · rw [hi]
      simp only [ft.idxI]
      go_wp2
      have hb2w := HXB.out _ HB2.out
      exact bodyPost_ret (v := .agg #[.int .i64 1, .slice none 0 0, .bool false, .slice none 0 0]) (by simp [results, Try.results18, go_sem, *]) rfl (HEND.out _ (by repeat (first | (with_reducible exact Below.refl _ _) | (with_reducible assumption) | (with_reducible refine bset ?_ ?_ _) | (with_reducible refine balloc ?_ _) | (with_reducible refine Below.drew ?_) | (with_reducible refine bdrewN ?_ _) | (with_reducible refine bnext ?_ (by with_reducible assumption)) | exact Nat.le_refl _ | (simp; done) | omega | (simp; omega))))
end Go.Proofs.Ytdldfllllgogoaa
