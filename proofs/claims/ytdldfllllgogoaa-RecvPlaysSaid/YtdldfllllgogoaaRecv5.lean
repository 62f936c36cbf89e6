/- Package recv: take. No condition. -/
import Derived.Test.YtdldfllllgogoaaRecv4
namespace Go.Proofs.Ytdldfllllgogoaa
open Go.RowKit
set_option linter.unusedSimpArgs false

theorem after_alloc {w1 w2 : World} {cs : Array Value} {T : TypeId} (hb : Below (w1.alloc (.cells cs T)).heap.size (w1.alloc (.cells cs T)) w2) : BlkA w2 w1.heap.size T cs ∧ w1.heap.size < w2.heap.size := by
  have h := (BlkA.new w1 T cs).next hb
  exact ⟨h, h.lt⟩
theorem after_allocD {w1 w2 : World} {cs : Array Value} {T : TypeId} (hb : Below (w1.alloc (.cells cs T)).drew.heap.size (w1.alloc (.cells cs T)).drew w2) : BlkA w2 w1.heap.size T cs ∧ w1.heap.size < w2.heap.size := by
  have h := (BlkA.new w1 T cs).drew.next hb
  exact ⟨h, h.lt⟩
theorem after_allocN {w1 w2 : World} {cs : Array Value} {T : TypeId} {k : Nat} (hb : Below ((w1.alloc (.cells cs T)).drewN k).heap.size ((w1.alloc (.cells cs T)).drewN k) w2) : BlkA w2 w1.heap.size T cs ∧ w1.heap.size < w2.heap.size := by
  have h := ((BlkA.new w1 T cs).drewN k).next hb
  exact ⟨h, h.lt⟩
theorem BlkA.six {w : World} {F : Nat} {T : TypeId} {a0 a1 a2 a3 a4 a5 : Value} (h : BlkA w F T #[a0, a1, a2, a3, a4, a5]) (v0 v1 v2 v3 v4 v5 : Value) : BlkA ((((((w.setCell ⟨F, 0, none⟩ v0).setCell ⟨F, 1, none⟩ v1).setCell ⟨F, 2, none⟩ v2).setCell ⟨F, 3, none⟩ v3).setCell ⟨F, 4, none⟩ v4).setCell ⟨F, 5, none⟩ v5) F T #[v0, v1, v2, v3, v4, v5] := by
  have h := (((((h.set 0 v0).set 1 v1).set 2 v2).set 3 v3).set 4 v4).set 5 v5
  simpa using h
theorem Stays.six (w : World) (F : Nat) (v0 v1 v2 v3 v4 v5 : Value) : Stays w ((((((w.setCell ⟨F, 0, none⟩ v0).setCell ⟨F, 1, none⟩ v1).setCell ⟨F, 2, none⟩ v2).setCell ⟨F, 3, none⟩ v3).setCell ⟨F, 4, none⟩ v4).setCell ⟨F, 5, none⟩ v5) (fun k => k = F) :=
  ((((((Stays.set _ _ _ _).comp (Stays.set _ _ _ _)).comp (Stays.set _ _ _ _)).comp (Stays.set _ _ _ _)).comp (Stays.set _ _ _ _)).comp (Stays.set _ _ _ _))
theorem u8NeTold : 5 ≠ 41 := by decide
section
variable {w1 w2 : World} {E : Option Addr} {m ec : Nat} {xs : List Value} (hb : Below w1.heap.size w1 w2) (hE : Own w2 w1.heap.size 5 1 E m ec xs)
include hb hE
theorem take_end1 : Hid (BlkA (w2.alloc (.cells #[.int .i64 0, .int .i64 0, .int .i64 0, .slice none 0 0, .slice E m ec, .bool false] 41)) w2.heap.size 41 #[.int .i64 0, .int .i64 0, .int .i64 0, .slice none 0 0, .slice E m ec, .bool false] ∧ Own (w2.alloc (.cells #[.int .i64 0, .int .i64 0, .int .i64 0, .slice none 0 0, .slice E m ec, .bool false] 41)) w1.heap.size 5 1 E m ec xs ∧ Below w1.heap.size w1 (w2.alloc (.cells #[.int .i64 0, .int .i64 0, .int .i64 0, .slice none 0 0, .slice E m ec, .bool false] 41))) := Lib.hid ⟨BlkA.new _ _ _, hE.alloc _, balloc hb _⟩
theorem take_end2 {a0 a1 a2 a3 a4 a5 : Value} (hq : BlkA w2 w1.heap.size 41 #[a0, a1, a2, a3, a4, a5]) : Hid (BlkA ((((((w2.setCell ⟨w1.heap.size, 0, none⟩ (.int .i64 0)).setCell ⟨w1.heap.size, 1, none⟩ (.int .i64 0)).setCell ⟨w1.heap.size, 2, none⟩ (.int .i64 0)).setCell ⟨w1.heap.size, 3, none⟩ (.slice none 0 0)).setCell ⟨w1.heap.size, 4, none⟩ (.slice E m ec)).setCell ⟨w1.heap.size, 5, none⟩ (.bool false)) w1.heap.size 41 #[.int .i64 0, .int .i64 0, .int .i64 0, .slice none 0 0, .slice E m ec, .bool false] ∧ Own ((((((w2.setCell ⟨w1.heap.size, 0, none⟩ (.int .i64 0)).setCell ⟨w1.heap.size, 1, none⟩ (.int .i64 0)).setCell ⟨w1.heap.size, 2, none⟩ (.int .i64 0)).setCell ⟨w1.heap.size, 3, none⟩ (.slice none 0 0)).setCell ⟨w1.heap.size, 4, none⟩ (.slice E m ec)).setCell ⟨w1.heap.size, 5, none⟩ (.bool false)) w1.heap.size 5 1 E m ec xs ∧ Below w1.heap.size w1 ((((((w2.setCell ⟨w1.heap.size, 0, none⟩ (.int .i64 0)).setCell ⟨w1.heap.size, 1, none⟩ (.int .i64 0)).setCell ⟨w1.heap.size, 2, none⟩ (.int .i64 0)).setCell ⟨w1.heap.size, 3, none⟩ (.slice none 0 0)).setCell ⟨w1.heap.size, 4, none⟩ (.slice E m ec)).setCell ⟨w1.heap.size, 5, none⟩ (.bool false))) :=
  Lib.hid ⟨hq.six _ _ _ _ _ _, hE.stays (Stays.six _ _ _ _ _ _ _ _) (fun k hk e => hq.apart hE u8NeTold (e ▸ hk)), hb.trans ((Stays.six _ _ _ _ _ _ _ _).below hb.size (fun k hk => Nat.le_of_eq hk.symm))⟩
end
theorem HAt.hf_lt {w : World} {B F : Nat} {room : Int} {s : rv.St} {D M : Option Addr} {dc mc : Nat} (h : HAt w B F room s D dc M mc) {k : Nat} (hk : HF F D M s.more k) : B ≤ k ∧ k < w.heap.size := by
  rcases hk with e | e | ⟨e, e2⟩
  · exact ⟨by rw [e]; exact h.lo, by rw [e]; exact h.blk.lt⟩
  · exact h.data.lt k e
  · rcases h.mset with e3 | ⟨q, hq, hin⟩
    · exact absurd e3 e
    · rw [hq] at e2
      cases e2
      exact ⟨hin.1, hin.2.1⟩
def TakeRes (w : World) (B F : Nat) (room : Int) (s : rv.St) (c : Int) (l : List UInt8) (b : Bool) (s' : rv.St) (D : Option Addr) (dc : Nat) (M : Option Addr) (mc : Nat) (e : Ending) (w' : World) : Prop :=
  ∃ E ec, e = .returned (.agg #[.int .i64 c, .int .i64 0, .int .i64 0, .slice none 0 0, .slice E l.length ec, .bool b]) ∧ Own w' w.heap.size 5 1 E l.length ec (l.map rv.u8v) ∧ HAt w' B F room s' D dc M mc ∧ Stays w w' (fun k => k = F)
set_option maxRecDepth 100000 in
set_option maxHeartbeats 2000000 in
theorem recv_take_no (B F : Nat) (room : Int) (s : rv.St) (D : Option Addr) (dc : Nat) (M : Option Addr) (mc : Nat) (c : Int) (w : World) (h : HAt w B F room s D dc M mc) (hc : c < 0 ∨ 4096 < c) :
    Calls Try.prog 40 #[.pointer (some ⟨F, 0, none⟩), .int .i64 c] w (TakeRes w B F room s 2 [] false s D dc M mc) := by
  have HE : Hid (∀ wx, Below w.heap.size w wx → TakeRes w B F room s 2 [] false s D dc M mc (.returned (.agg #[.int .i64 2, .int .i64 0, .int .i64 0, .slice none 0 0, .slice none 0 0, .bool false])) wx) := Lib.hid (fun wx hb => ⟨none, 0, rfl, Own.nil _ _ _ _, h.next hb, Stays.of_below hb _⟩)
  clear h
  by_cases h0 : c < 0
  · go_enter Try.func40, Try.ntmps40
    go_wp2
    exact bodyPost_ret (v := .agg #[.int .i64 2, .int .i64 0, .int .i64 0, .slice none 0 0, .slice none 0 0, .bool false]) (by simp [results, Try.results40, go_sem]) rfl (HE.out _ (by repeat (first | (with_reducible exact Below.refl _ _) | (with_reducible assumption) | (with_reducible refine bset ?_ ?_ _) | (with_reducible refine balloc ?_ _) | (with_reducible refine Below.drew ?_) | (with_reducible refine bdrewN ?_ _) | (with_reducible refine bnext ?_ (by with_reducible assumption)) | exact Nat.le_refl _ | (simp; done) | omega | (simp; omega))))
  · have h1 : 4096 < c := by omega
    clear hc
    go_enter Try.func40, Try.ntmps40
    go_wp2
    exact bodyPost_ret (v := .agg #[.int .i64 2, .int .i64 0, .int .i64 0, .slice none 0 0, .slice none 0 0, .bool false]) (by simp [results, Try.results40, go_sem]) rfl (HE.out _ (by repeat (first | (with_reducible exact Below.refl _ _) | (with_reducible assumption) | (with_reducible refine bset ?_ ?_ _) | (with_reducible refine balloc ?_ _) | (with_reducible refine Below.drew ?_) | (with_reducible refine bdrewN ?_ _) | (with_reducible refine bnext ?_ (by with_reducible assumption)) | exact Nat.le_refl _ | (simp; done) | omega | (simp; omega))))
set_option maxRecDepth 100000 in
set_option maxHeartbeats 2000000 in
theorem recv_take_ok (B F : Nat) (room : Int) (s : rv.St) (D : Option Addr) (dc : Nat) (M : Option Addr) (mc : Nat) (c : Int) (w : World) (h : HAt w B F room s D dc M mc) (hi : rv.Inv room s) (hc : 0 ≤ c ∧ c ≤ 4096) :
    Calls Try.prog 40 #[.pointer (some ⟨F, 0, none⟩), .int .i64 c] w (TakeRes w B F room s 0 ((s.data.drop s.taken.toNat).take (rv.takeOf s c)) (decide (s.taken + rv.takeOf s c = s.end_)) { s with taken := s.taken + rv.takeOf s c } D dc M mc) := by
  have H := Lib.hid h
  have HI := Lib.hid hi
  have hFl := h.blk.lt
  have hk := rv.takeOf_le hi (c := c) hc.1
  generalize hm : rv.takeOf s c = m at *
  have hlo := hi.lo
  have htop := hi.top
  have hlen := hi.len.1
  have hDc : s.data.length ≤ dc := h.data.cap.1
  obtain ⟨tk, htk⟩ : ∃ tk : Nat, s.taken = (tk : Int) := ⟨s.taken.toNat, by omega⟩
  obtain ⟨dn, hdn⟩ : ∃ dn : Int, s.done = dn := ⟨_, rfl⟩
  have HTK := Lib.hid htk
  have d1 := h.blk.get 1
  have d2 := h.blk.get 2
  have d4 := h.blk.get 4
  have d5 := h.blk.get 5
  have f4 := h.blk.frozen 4
  simp only [List.getElem?_toArray, List.getElem?_cons_succ, List.getElem?_cons_zero] at d1 d2 d4 d5
  rw [htk] at d4 hlo hk ⊢
  rw [hdn] at d2 hlo hk htop hlen
  have hmb : (m : Int) ≤ 4096 ∧ (tk : Int) + (m : Int) ≤ dn := by omega
  have htn : tk + m ≤ s.data.length := by omega
  have hsl : SlRep Rep.u8 w (fun k => B ≤ k ∧ k < w.heap.size) ((s.data.drop tk).take m) (cutA D dc tk 1) (dc - tk) := (Own.u8 h.data).2.cut htn
  have hpl : ((s.data.drop tk).take m).length = m := by rw [List.length_take, List.length_drop]; omega
  have HCL := Lib.hid (fun wz (hb : Below w.heap.size w wz) => clone_u8 m (cutA D dc tk 1) (dc - tk) (((s.data.drop tk).take m).map rv.u8v) wz (by rw [List.length_map]; exact hpl) (fun w' hb' => SlRep.cells_u8 (hsl.keep fun k hk => ⟨hk, (hb'.block k (Nat.lt_of_lt_of_le hk.2 hb.size)).trans (hb.block k hk.2)⟩)) (oneCell_u8 _) (by omega))
  have HPL := Lib.hid hpl
  have c1 := fun W => run_cut_lh elemU8 D s.data.length dc tk m (by omega) (tk : Int) ((tk : Int) + (m : Int)) rfl rfl W
  rw [Int.toNat_natCast]
  generalize (s.data.drop tk).take m = xs at *
  have HMM := Lib.hid hk
  generalize s.data.length = dl at *
  have e1 : IntKind.i64.wrap (dn - (tk : Int)) = dn - (tk : Int) := IntWalk.i64_in _ (by omega)
  obtain ⟨nx, hnx⟩ : ∃ nx : Int, nx = (m : Int) := ⟨_, rfl⟩
  clear h hi hk hlen hDc htk hdn htn hsl hpl hm HTK
  obtain ⟨bq, hbq⟩ : ∃ b : Bool, decide ((tk : Int) + (m : Int) = s.end_) = b := ⟨_, rfl⟩
  obtain ⟨en, hen⟩ : ∃ en : Int, s.end_ = en := ⟨_, rfl⟩
  rw [hbq]
  rw [hen] at hbq d5
  have HBQ := Lib.hid hbq
  clear hbq hen
  go_enter Try.func40, Try.ntmps40
  go_upto_region 3 with (fail)
  go_cut [5] (fun s5 wx => s5 = .int .i64 (m : Int) ∧ Hid (Below w.heap.size w wx ∧ BlkA wx w.heap.size 41 #[.int .i64 0, .int .i64 0, .int .i64 0, .slice none 0 0, .slice none 0 0, .bool false]))
  case first =>
    go_quiet (fail)
    go_wp2
    all_goals
      go_meet
      refine ⟨?_, Lib.hid ⟨(by repeat (first | (with_reducible exact Below.refl _ _) | (with_reducible assumption) | (with_reducible refine bset ?_ ?_ _) | (with_reducible refine balloc ?_ _) | (with_reducible refine Below.drew ?_) | (with_reducible refine bdrewN ?_ _) | (with_reducible refine bnext ?_ (by with_reducible assumption)) | exact Nat.le_refl _ | (simp; done) | omega | (simp; omega))), (BlkA.new w _ _).drewN _⟩⟩
      rw [HMM.out]; congr 1; omega
  case rest =>
    obtain ⟨rfl, HB1⟩ := hcut
    rename World => w1
    have d1 := (HB1.out.1.cell (p := ⟨F, 1, none⟩) hFl).trans d1
    have d4 := (HB1.out.1.cell (p := ⟨F, 4, none⟩) hFl).trans d4
    have d5 := (HB1.out.1.cell (p := ⟨F, 5, none⟩) hFl).trans d5
    have f4 := (HB1.out.1.frozen (p := ⟨F, 4, none⟩) hFl).trans f4
    have hz1 := HB1.out.2.lt
    clear e1
    have e2 : IntKind.i64.wrap ((tk : Int) + (m : Int)) = (tk : Int) + (m : Int) := IntWalk.i64_in _ (by omega)
    have hb1 : Below w.heap.size w w1 := HB1.out.1
    have hF1 : F < w1.heap.size := Nat.lt_of_lt_of_le hFl hb1.size
    go_upto_region 4 with fail
    go_cut [6] (fun s6 wx => ∃ (G6 : Nat) (E : Option Addr) (ec : Nat), s6 = .pointer (some ⟨G6, 0, none⟩) ∧ w1.heap.size ≤ G6 ∧ Hid (BlkA wx G6 41 #[.int .i64 0, .int .i64 0, .int .i64 0, .slice none 0 0, .slice E m ec, .bool false] ∧ Own wx w1.heap.size 5 1 E m ec (xs.map rv.u8v) ∧ Below w1.heap.size w1 wx))
    case first =>
      go_region_held3 (fun w' => w'.cell? ⟨F, 1, none⟩ = some (.slice D dl dc) ∧ w'.cell? ⟨F, 4, none⟩ = some (.int .i64 (tk : Int))) ((first | (go_keep; done) | (refine ⟨?_, ?_⟩ <;> (simp [go_sem, *]; done)) | fail))
        (first
          | (go_at_call 36; ((refine (HCL.out _ (by exact (by repeat (first | (with_reducible exact Below.refl _ _) | (with_reducible assumption) | (with_reducible refine bset ?_ ?_ _) | (with_reducible refine balloc ?_ _) | (with_reducible refine Below.drew ?_) | (with_reducible refine bdrewN ?_ _) | (with_reducible refine bnext ?_ (by with_reducible assumption)) | exact Nat.le_refl _ | (simp; done) | omega | (simp; omega))))).mono ?_); rintro e w2 ⟨E, ec, rfl, hE, hb2⟩; have B2 : Below w1.heap.size w1 w2 := (by repeat (first | (with_reducible exact Below.refl _ _) | (with_reducible assumption) | (with_reducible refine bset ?_ ?_ _) | (with_reducible refine balloc ?_ _) | (with_reducible refine Below.drew ?_) | (with_reducible refine bdrewN ?_ _) | (with_reducible refine bnext ?_ (by with_reducible assumption)) | exact Nat.le_refl _ | (simp; done) | omega | (simp; omega))); have x1 := (B2.cell (p := ⟨F, 1, none⟩) hF1).trans d1; have x4 := (B2.cell (p := ⟨F, 4, none⟩) hF1).trans d4; have hF2 : F < w2.heap.size := Nat.lt_of_lt_of_le hF1 B2.size; have hn1 : F ≠ w1.heap.size := Nat.ne_of_lt hF1; have hn2 : F ≠ w2.heap.size := Nat.ne_of_lt hF2; have hn3 : w1.heap.size ≠ F := Nat.ne_of_gt hF1; have hn4 : w2.heap.size ≠ F := Nat.ne_of_gt hF2; (first | (have hq := after_alloc hb2; have hzq := hq.2; have yc := hq.1.get; have yf := hq.1.frozen) | (have hq := after_allocD hb2; have hzq := hq.2; have yc := hq.1.get; have yf := hq.1.frozen) | (have hq := after_allocN hb2; have hzq := hq.2; have yc := hq.1.get; have yf := hq.1.frozen) | skip); have hE1 := hE.base_le (b' := w1.heap.size) (by first | (simp; done) | (simp; omega) | exact Nat.le_refl _); have HE := Lib.hid hE1; have HB2 := Lib.hid hb2; clear hE hE1 hb2))
          | fail)
      · (try go_wp2)
        go_meet
        exact ⟨w2.heap.size, E, ec, rfl, B2.size, take_end1 B2 HE.out⟩
      · (try go_wp2)
        go_meet
        exact ⟨w1.heap.size, E, ec, rfl, Nat.le_refl _, take_end2 B2 HE.out hq.1⟩
    case rest =>
      obtain ⟨G6, E, ec, rfl, hG6, HG⟩ := hcut
      rename World => w2
      have hb2 : Below w1.heap.size w1 w2 := HG.out.2.2
      have k4 := (hb2.cell (p := ⟨F, 4, none⟩) hF1).trans d4
      have k5 := (hb2.cell (p := ⟨F, 5, none⟩) hF1).trans d5
      have kf := (hb2.frozen (p := ⟨F, 4, none⟩) hF1).trans f4
      have hb3 : BlkA w2 w.heap.size _ _ := HB1.out.2.next hb2
      have yc := HG.out.1.get
      have yf := HG.out.1.frozen
      have zc := hb3.get
      have zf := hb3.frozen
      have hbe : ((tk : Int) + (m : Int) == en) = bq := by rw [← HBQ.out]; exact Bool.eq_iff_iff.2 (by simp)
      have n1 : G6 ≠ F := by omega
      have n2 : F ≠ G6 := by omega
      have n3 : G6 ≠ w.heap.size := by omega
      have n4 : w.heap.size ≠ G6 := by omega
      have n5 : F ≠ w.heap.size := by omega
      have n6 : w.heap.size ≠ F := by omega
      have HEND : Hid (∀ wx, Stays ((w2.setCell ⟨F, 4, none⟩ (.int .i64 ((tk : Int) + (m : Int))))) wx (fun k => k = G6 ∨ k = w.heap.size) → TakeRes w B F room s 0 xs bq { s with taken := (tk : Int) + (m : Int) } D dc M mc (.returned (.agg #[.int .i64 0, .int .i64 0, .int .i64 0, .slice none 0 0, .slice E m ec, .bool bq])) wx) := Lib.hid (fun wx hs => by
        have h2 := (H.out.next (hb1.trans (hb2.mono hb1.size))).put4 ((tk : Int) + (m : Int))
        have hE := HG.out.2.1
        have hlt := hE.lt
        refine ⟨E, ec, by rw [HPL.out], ?_, h2.stays hs (fun k hk e => ?_), ?_⟩
        · rw [HPL.out]
          refine ((hE.setCell (p := ⟨F, 4, none⟩) (fun e => by have := (hlt _ e).1; simp only at this; omega) _).stays hs (fun k hk e => ?_)).base_le hb1.size
          rcases e with e | e
          · exact HG.out.1.apart hE u8NeTold (e ▸ hk)
          · have := (hlt _ hk).1; omega
        · have := (H.out.hf_lt hk).2
          rcases e with e | e <;> omega
        · refine ((Stays.of_below (hb1.trans (hb2.mono hb1.size)) (fun k => k = F)).comp (Stays.set _ _ _ _)).trans hs (fun k hk e => ?_)
          rcases e with e | e <;> omega)
      clear d1 d4 d5 f4 c1 hb1
      go_wp2
      go_region_law (fail)
      all_goals
        go_wp2
        refine bodyPost_ret (v := .agg #[.int .i64 0, .int .i64 0, .int .i64 0, .slice none 0 0, .slice E m ec, .bool bq]) (by simp [results, Try.results40, go_sem, *]) rfl (HEND.out _ ?_)
        refine (((Stays.set _ _ _ _).mono fun k _ hk => .inl hk).comp ((Stays.six _ _ _ _ _ _ _ _).mono fun k _ hk => .inr hk)).comp (Stays.of_below (Below.drew (bself _)) _)
end Go.Proofs.Ytdldfllllgogoaa
