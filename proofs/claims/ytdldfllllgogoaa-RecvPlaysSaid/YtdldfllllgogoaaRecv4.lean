/- Package recv: arrive. No condition. -/
import Derived.Test.YtdldfllllgogoaaRecv3
namespace Go.Proofs.Ytdldfllllgogoaa
open Go.RowKit
set_option linter.unusedSimpArgs false

def ArrRes (w : World) (B F : Nat) (room : Int) (l : List Rng) (r : Int × rv.St) (D M : Option Addr) (e : Ending) (w' : World) : Prop :=
  ∃ D1 dc1 M1 mc1, e = .returned (.int .i64 r.1) ∧ HAt w' B F room r.2 D1 dc1 M1 mc1 ∧ Stays w w' (HF F D M l) ∧ ∀ k, HF F D1 M1 r.2.more k → HF F D M l k ∨ w.heap.size ≤ k
theorem ArrRes.no {w w' : World} {B F : Nat} {room : Int} {s : rv.St} {D M : Option Addr} {dc mc : Nat} {r : Int × rv.St} {c : Int} (h : HAt w B F room s D dc M mc) (hr : r = (c, s)) (hb : Below w.heap.size w w') : ArrRes w B F room s.more r D M (.returned (.int .i64 c)) w' := by
  subst hr
  exact ⟨D, dc, M, mc, rfl, h.next hb, Stays.of_below hb _, fun k hk => .inl hk⟩
def arrArgs (F : Nat) (a : Arrival) (G : Option Addr) (gc : Nat) : Array Value := #[.pointer (some ⟨F, 0, none⟩), .agg #[.int .i64 a.kind, .int .i64 a.from_, .slice G a.data.length gc, .bool a.fin, .int .i64 a.count]]
theorem rv.arrive_range {room : Int} {s : rv.St} {a : Arrival} (h : a.from_ < 0 ∨ 1048576 ≤ a.from_ ∨ 1048576 ≤ a.from_ + a.data.length) : rv.arrive room s a = (2, s) := by
  unfold rv.arrive rv.to_
  rw [if_pos h]
theorem rv.arrive_size {room : Int} {s : rv.St} {a : Arrival} (h : ¬ (a.from_ < 0 ∨ 1048576 ≤ a.from_ ∨ 1048576 ≤ a.from_ + a.data.length)) (h2 : 64 < a.data.length) : rv.arrive room s a = (1, s) := by
  unfold rv.arrive rv.to_
  rw [if_neg h, if_pos h2]

section
variable {w w' : World} {B F : Nat} {room : Int} {s : rv.St} {D M : Option Addr} {dc mc : Nat}
theorem HAt.rowKeep (h : HAt w B F room s D dc M mc) (j : Nat) (v : Value) {l : List Rng} {M1 : Option Addr} {mc1 : Nat} (hm : SlRep Rng.rep w (rv.InM w B F D) l M1 mc1) : SlRep Rng.rep (w.setCell ⟨F, j, none⟩ v) (rv.InM (w.setCell ⟨F, j, none⟩ v) B F D) l M1 mc1 := by
  have hs := Stays.set w F j v
  exact hm.keep fun k hk => ⟨⟨hk.1, Nat.lt_of_lt_of_le hk.2.1 hs.size, hk.2.2⟩, hs.block k hk.2.1 hk.2.2.1⟩
theorem HAt.put2 (h : HAt w B F room s D dc M mc) (d : Int) : HAt (w.setCell ⟨F, 2, none⟩ (.int .i64 d)) B F room { s with done := d } D dc M mc :=
  ⟨h.lo, by simpa using h.blk.set 2 (.int .i64 d), h.data.setCell (by exact h.apart) _, h.rowKeep _ _ h.more⟩
theorem HAt.put3 (h : HAt w B F room s D dc M mc) {l : List Rng} {M1 : Option Addr} {mc1 : Nat} (hm : SlRep Rng.rep w (rv.InM w B F D) l M1 mc1) : HAt (w.setCell ⟨F, 3, none⟩ (.slice M1 l.length mc1)) B F room { s with more := l } D dc M1 mc1 :=
  ⟨h.lo, by simpa using h.blk.set 3 (.slice M1 l.length mc1), h.data.setCell (by exact h.apart) _, h.rowKeep _ _ hm⟩
theorem HAt.put4 (h : HAt w B F room s D dc M mc) (d : Int) : HAt (w.setCell ⟨F, 4, none⟩ (.int .i64 d)) B F room { s with taken := d } D dc M mc :=
  ⟨h.lo, by simpa using h.blk.set 4 (.int .i64 d), h.data.setCell (by exact h.apart) _, h.rowKeep _ _ h.more⟩
theorem HAt.put5 (h : HAt w B F room s D dc M mc) (d : Int) : HAt (w.setCell ⟨F, 5, none⟩ (.int .i64 d)) B F room { s with end_ := d } D dc M mc :=
  ⟨h.lo, by simpa using h.blk.set 5 (.int .i64 d), h.data.setCell (by exact h.apart) _, h.rowKeep _ _ h.more⟩
end
/-- ahead of the end of arrive -/
structure ArrEnd (w wx : World) (B F : Nat) (room : Int) (s s1 : rv.St) (r : Int × rv.St) (t : Int) (D M : Option Addr) (mc : Nat) (d1 : Int) (m1 : List Rng) (D1 : Option Addr) (dc1 : Nat) (M1 : Option Addr) (mc1 : Nat) (ak af : Int) (G : Option Addr) (al gc : Nat) (an : Bool) (ac : Int) : Prop where
  at_ : HAt wx B F room s1 D1 dc1 M mc
  res : r = (0, { s1 with done := d1, more := m1, end_ := if an = true then t else s1.end_ })
  more : SlRep Rng.rep wx (rv.InM wx B F D1) m1 M1 mc1
  stay : Stays w wx (HW F D)
  na : Anew w D1 D
  nm : ∀ k, m1 ≠ [] → blkOf M1 = some k → (s.more ≠ [] ∧ blkOf M = some k) ∨ w.heap.size ≤ k
  arg : BlkA wx w.heap.size 73 #[.int .i64 ak, .int .i64 af, .slice G al gc, .bool an, .int .i64 ac]
/-- the arrival may be heard -/
structure Pass (s : rv.St) (t : Int) (fin : Bool) : Prop where
  le : 0 ≤ s.end_ → t ≤ s.end_ ∧ (fin = true → t = s.end_)
  be : fin = true → rv.beyond s ≤ t
/-- behind the switch of arrive -/
structure ArrMid (w wx : World) (ak af : Int) (G : Option Addr) (al gc : Nat) (an : Bool) (ac : Int) : Prop where
  below : Below w.heap.size w wx
  arg : BlkA wx w.heap.size 73 #[.int .i64 ak, .int .i64 af, .slice G al gc, .bool an, .int .i64 ac]
theorem rv.arrive_state {room : Int} {s : rv.St} {a : Arrival} (h : ¬ (a.from_ < 0 ∨ 1048576 ≤ a.from_ ∨ 1048576 ≤ a.from_ + a.data.length)) (h2 : ¬ 64 < a.data.length) (h3 : (0 ≤ s.end_ ∧ (s.end_ < rv.to_ a ∨ a.fin = true ∧ rv.to_ a ≠ s.end_)) ∨ a.fin = true ∧ rv.to_ a < rv.beyond s) : rv.arrive room s a = (10, s) := by
  unfold rv.arrive
  rw [if_neg (by unfold rv.to_; exact h), if_neg h2, if_pos h3]
section
variable {room : Int} {s : rv.St} {a : Arrival} (h : ¬ (a.from_ < 0 ∨ 1048576 ≤ a.from_ ∨ 1048576 ≤ a.from_ + a.data.length)) (h2 : ¬ 64 < a.data.length) (h3 : Pass s (rv.to_ a) a.fin)
include h h2 h3
theorem rv.arrive_past : rv.arrive room s a = if rv.frOf s a < rv.upOf room s a then (if 16 < (had.addTo s.done s.more ⟨rv.frOf s a, rv.upOf room s a⟩).2.length then (9, s) else (0, { s with done := (had.addTo s.done s.more ⟨rv.frOf s a, rv.upOf room s a⟩).1, more := (had.addTo s.done s.more ⟨rv.frOf s a, rv.upOf room s a⟩).2, data := rv.kept s.more s.data (rv.frOf s a).toNat (rv.part room s a), end_ := if a.fin = true then rv.to_ a else s.end_ })) else (0, { s with end_ := if a.fin = true then rv.to_ a else s.end_ }) := by
  unfold rv.arrive
  rw [if_neg (by unfold rv.to_; exact h), if_neg h2, if_neg]
  rintro (⟨e0, e1 | ⟨e1, e2⟩⟩ | ⟨e1, e2⟩)
  · have := (h3.le e0).1; omega
  · exact e2 ((h3.le e0).2 e1)
  · have := h3.be e1; omega
theorem rv.arrive_none (hl : ¬ rv.frOf s a < rv.upOf room s a) : rv.arrive room s a = (0, { s with end_ := if a.fin = true then rv.to_ a else s.end_ }) := by
  rw [rv.arrive_past h h2 h3, if_neg hl]
theorem rv.arrive_full (hl : rv.frOf s a < rv.upOf room s a) (hf : 16 < (had.addTo s.done s.more ⟨rv.frOf s a, rv.upOf room s a⟩).2.length) : rv.arrive room s a = (9, s) := by
  rw [rv.arrive_past h h2 h3, if_pos hl, if_pos hf]
theorem rv.arrive_ok (hl : rv.frOf s a < rv.upOf room s a) (hf : ¬ 16 < (had.addTo s.done s.more ⟨rv.frOf s a, rv.upOf room s a⟩).2.length) : rv.arrive room s a = (0, { s with done := (had.addTo s.done s.more ⟨rv.frOf s a, rv.upOf room s a⟩).1, more := (had.addTo s.done s.more ⟨rv.frOf s a, rv.upOf room s a⟩).2, data := rv.kept s.more s.data (rv.frOf s a).toNat (rv.part room s a), end_ := if a.fin = true then rv.to_ a else s.end_ }) := by
  rw [rv.arrive_past h h2 h3, if_pos hl, if_neg hf]
end
set_option maxRecDepth 100000 in
set_option maxHeartbeats 2000000 in
theorem recv_arrive (B F : Nat) (room : Int) (s : rv.St) (D : Option Addr) (dc : Nat) (M : Option Addr) (mc : Nat) (a : Arrival) (G : Option Addr) (gc : Nat) (S : Nat → Prop) (w : World) (h : HAt w B F room s D dc M mc) (hi : rv.Inv room s) (hr : 1 ≤ room ∧ room ≤ 4096) (hG : SlRep Rep.u8 w S a.data G gc) (hS : ∀ k, S k → k < w.heap.size ∧ ¬ HF F D M s.more k) (ha : IntOk a.from_) (hd : a.data.length ≤ 140737488351232) :
    Calls Try.prog 39 #[.pointer (some ⟨F, 0, none⟩), .agg #[.int .i64 a.kind, .int .i64 a.from_, .slice G a.data.length gc, .bool a.fin, .int .i64 a.count]] w (ArrRes w B F room s.more (rv.arrive room s a) D M) := by
  obtain ⟨ak, af, ad, an, ac⟩ := a
  simp only at hG ha hd ⊢
  unfold IntOk at ha
  have H := Lib.hid h
  have HI := Lib.hid hi
  have HG := Lib.hid hG
  have HS := Lib.hid hS
  have hFl := h.blk.lt
  have d0 := h.blk.get 0
  have d1 := h.blk.get 1
  have d2 := h.blk.get 2
  have d3 := h.blk.get 3
  have d4 := h.blk.get 4
  have d5 := h.blk.get 5
  simp only [List.getElem?_toArray, List.getElem?_cons_succ, List.getElem?_cons_zero] at d0 d1 d2 d3 d4 d5
  obtain ⟨al, hal⟩ : ∃ al : Nat, al = ad.length := ⟨_, rfl⟩
  have HAL := Lib.hid hal
  have key : ∀ c : Int, rv.arrive room s ⟨ak, af, ad, an, ac⟩ = (c, s) → ∀ w', Below w.heap.size w w' → ArrRes w B F room s.more (rv.arrive room s ⟨ak, af, ad, an, ac⟩) D M (.returned (.int .i64 c)) w' := fun c hc w' hb => ArrRes.no h hc hb
  have KEY := Lib.hid key
  have HA2 : Hid (af < 0 ∨ 1048576 ≤ af ∨ 1048576 ≤ af + al → rv.arrive room s ⟨ak, af, ad, an, ac⟩ = (2, s)) := Lib.hid (fun h => rv.arrive_range (by rw [hal] at h; exact h))
  have HA1 : Hid (¬ (af < 0 ∨ 1048576 ≤ af ∨ 1048576 ≤ af + al) → 64 < al → rv.arrive room s ⟨ak, af, ad, an, ac⟩ = (1, s)) := Lib.hid (fun h h2 => rv.arrive_size (by rw [hal] at h; exact h) (by rw [hal] at h2; exact h2))
  rw [← hal] at hd ⊢
  clear h hi hG hS hal key
  by_cases c1 : af < 0
  · have HR := Lib.hid (HA2.out (.inl c1))
    go_enter Try.func39, Try.ntmps39
    go_wp2
    go_ret
    exact KEY.out _ HR.out _ (by repeat (first | (with_reducible exact Below.refl _ _) | (with_reducible assumption) | (with_reducible refine bset ?_ ?_ _) | (with_reducible refine balloc ?_ _) | (with_reducible refine Below.drew ?_) | (with_reducible refine bdrewN ?_ _) | (with_reducible refine bnext ?_ (by with_reducible assumption)) | exact Nat.le_refl _ | (simp; done) | omega | (simp; omega)))
  by_cases c2 : 1048576 ≤ af
  · have HR := Lib.hid (HA2.out (.inr (.inl c2)))
    go_enter Try.func39, Try.ntmps39
    go_wp2
    go_ret
    exact KEY.out _ HR.out _ (by repeat (first | (with_reducible exact Below.refl _ _) | (with_reducible assumption) | (with_reducible refine bset ?_ ?_ _) | (with_reducible refine balloc ?_ _) | (with_reducible refine Below.drew ?_) | (with_reducible refine bdrewN ?_ _) | (with_reducible refine bnext ?_ (by with_reducible assumption)) | exact Nat.le_refl _ | (simp; done) | omega | (simp; omega)))
  by_cases c3 : 1048576 ≤ af + al
  · have HR := Lib.hid (HA2.out (.inr (.inr c3)))
    go_enter Try.func39, Try.ntmps39
    go_wp2
    go_ret
    exact KEY.out _ HR.out _ (by repeat (first | (with_reducible exact Below.refl _ _) | (with_reducible assumption) | (with_reducible refine bset ?_ ?_ _) | (with_reducible refine balloc ?_ _) | (with_reducible refine Below.drew ?_) | (with_reducible refine bdrewN ?_ _) | (with_reducible refine bnext ?_ (by with_reducible assumption)) | exact Nat.le_refl _ | (simp; done) | omega | (simp; omega)))
  by_cases c4 : 64 < al
  · have HR := Lib.hid (HA1.out (by omega) c4)
    have c4' : (64 : Int) < (al : Int) := by omega
    go_enter Try.func39, Try.ntmps39
    go_wp2
    go_ret
    exact KEY.out _ HR.out _ (by repeat (first | (with_reducible exact Below.refl _ _) | (with_reducible assumption) | (with_reducible refine bset ?_ ?_ _) | (with_reducible refine balloc ?_ _) | (with_reducible refine Below.drew ?_) | (with_reducible refine bdrewN ?_ _) | (with_reducible refine bnext ?_ (by with_reducible assumption)) | exact Nat.le_refl _ | (simp; done) | omega | (simp; omega)))
  clear HA1 HA2
  have c4' : ¬ (64 : Int) < (al : Int) := by omega
  have HPS : Hid ((0 ≤ s.end_ ∧ (s.end_ < af + al ∨ an = true ∧ af + al ≠ s.end_)) ∨ an = true ∧ af + al < rv.beyond s → rv.arrive room s ⟨ak, af, ad, an, ac⟩ = (10, s)) := Lib.hid (fun h => rv.arrive_state (by simp only; rw [← HAL.out]; omega) (by simp only; rw [← HAL.out]; exact c4) (by unfold rv.to_; simp only; rw [← HAL.out]; exact h))
  have HN := Lib.hid HI.out.few
  have HBY := Lib.hid (fun wx (hb : Below w.heap.size w wx) => recv_beyond B F room s D dc M mc wx (H.out.next hb) HN.out)
  have HFI := Lib.hid HI.out.fin
  have HEE : Hid (s.end_ = s.end_) := Lib.hid rfl
  obtain ⟨t, ht⟩ : ∃ t, af + (al : Int) = t := ⟨_, rfl⟩
  have htb : 0 ≤ t ∧ t < 1048576 := by omega
  have HT := Lib.hid ht
  go_enter Try.func39, Try.ntmps39
  go_upto_block 0 with fail
  go_cut [5] (fun s5 wx => s5 = .int .i64 t ∧ Hid (ArrMid w wx ak af G al gc an ac) ∧ Hid (Pass s t an))
  case first =>
    rw [HT.out] at HPS
    obtain ⟨e, he⟩ : ∃ e, e = s.end_ := ⟨_, rfl⟩
    have HE := Lib.hid he
    rw [← he] at d5 HPS HFI
    obtain ⟨by_, hby⟩ : ∃ y, y = rv.beyond s := ⟨_, rfl⟩
    have HY := Lib.hid hby
    rw [← hby] at HPS HBY
    clear he hby
    have hbad : ∀ wx, Below w.heap.size w wx → rv.arrive room s ⟨ak, af, ad, an, ac⟩ = (10, s) → ArrRes w B F room s.more (rv.arrive room s ⟨ak, af, ad, an, ac⟩) D M (.returned (.int .i64 10)) wx := fun wx hb hc => KEY.out 10 hc wx hb
    have HBAD := Lib.hid hbad
    have hmid : ArrMid w (w.alloc (.cells #[.int .i64 ak, .int .i64 af, .slice G al gc, .bool an, .int .i64 ac] 73)) ak af G al gc an ac := ⟨balloc (bself w) _, BlkA.new _ _ _⟩
    have HMID := Lib.hid hmid
    clear hbad hmid KEY
    cases an with
    | true =>
      by_cases e1 : 0 ≤ e
      · by_cases e2 : e < t
        · have e2' : t > e := e2
          have HR := Lib.hid (HPS.out (.inl ⟨e1, .inl e2⟩))
          clear HPS
          go_wp2_with (first | ((go_at_call 70; ((with_reducible refine (HBY.out _ (by exact balloc (bself w) _)).mono ?_); rintro _ _ ⟨rfl, rfl⟩))) | fail)
          go_ret
          exact HBAD.out _ (by repeat (first | (with_reducible exact Below.refl _ _) | (with_reducible assumption) | (with_reducible refine bset ?_ ?_ _) | (with_reducible refine balloc ?_ _) | (with_reducible refine Below.drew ?_) | (with_reducible refine bdrewN ?_ _) | (with_reducible refine bnext ?_ (by with_reducible assumption)) | exact Nat.le_refl _ | (simp; done) | omega | (simp; omega))) HR.out
        by_cases e3 : t = e
        · have HTE := Lib.hid e3
          subst e3
          by_cases e4 : t < by_
          · have HR := Lib.hid (HPS.out (.inr ⟨rfl, e4⟩))
            clear HPS
            go_wp2_with (first | ((go_at_call 70; ((with_reducible refine (HBY.out _ (by exact balloc (bself w) _)).mono ?_); rintro _ _ ⟨rfl, rfl⟩))) | fail)
            go_ret
            exact HBAD.out _ (by repeat (first | (with_reducible exact Below.refl _ _) | (with_reducible assumption) | (with_reducible refine bset ?_ ?_ _) | (with_reducible refine balloc ?_ _) | (with_reducible refine Below.drew ?_) | (with_reducible refine bdrewN ?_ _) | (with_reducible refine bnext ?_ (by with_reducible assumption)) | exact Nat.le_refl _ | (simp; done) | omega | (simp; omega))) HR.out
          have HPASS : Hid (Pass s t true) := Lib.hid ⟨fun _ => by rw [← HE.out]; exact ⟨Int.le_refl _, fun _ => rfl⟩, fun _ => by rw [← HY.out]; omega⟩
          clear HPS
          go_wp2_with (first | ((go_at_call 70; ((with_reducible refine (HBY.out _ (by exact balloc (bself w) _)).mono ?_); rintro _ _ ⟨rfl, rfl⟩))) | fail)
          go_meet
          exact ⟨rfl, HMID, HPASS⟩
        · have hne : (t != e) = true := by simpa using e3
          have hne2 : (t == e) = false := by simpa using e3
          have HR := Lib.hid (HPS.out (.inl ⟨e1, .inr ⟨rfl, e3⟩⟩))
          clear HPS
          go_wp2_with (first | ((go_at_call 70; ((with_reducible refine (HBY.out _ (by exact balloc (bself w) _)).mono ?_); rintro _ _ ⟨rfl, rfl⟩))) | fail)
          go_ret
          exact HBAD.out _ (by repeat (first | (with_reducible exact Below.refl _ _) | (with_reducible assumption) | (with_reducible refine bset ?_ ?_ _) | (with_reducible refine balloc ?_ _) | (with_reducible refine Below.drew ?_) | (with_reducible refine bdrewN ?_ _) | (with_reducible refine bnext ?_ (by with_reducible assumption)) | exact Nat.le_refl _ | (simp; done) | omega | (simp; omega))) HR.out
      · by_cases e4 : t < by_
        · have HR := Lib.hid (HPS.out (.inr ⟨rfl, e4⟩))
          clear HPS
          go_wp2_with (first | ((go_at_call 70; ((with_reducible refine (HBY.out _ (by exact balloc (bself w) _)).mono ?_); rintro _ _ ⟨rfl, rfl⟩))) | fail)
          go_ret
          exact HBAD.out _ (by repeat (first | (with_reducible exact Below.refl _ _) | (with_reducible assumption) | (with_reducible refine bset ?_ ?_ _) | (with_reducible refine balloc ?_ _) | (with_reducible refine Below.drew ?_) | (with_reducible refine bdrewN ?_ _) | (with_reducible refine bnext ?_ (by with_reducible assumption)) | exact Nat.le_refl _ | (simp; done) | omega | (simp; omega))) HR.out
        have HPASS : Hid (Pass s t true) := Lib.hid ⟨fun h => absurd (by rw [HE.out]; exact h) e1, fun _ => by rw [← HY.out]; omega⟩
        clear HPS
        go_wp2_with (first | ((go_at_call 70; ((with_reducible refine (HBY.out _ (by exact balloc (bself w) _)).mono ?_); rintro _ _ ⟨rfl, rfl⟩))) | fail)
        go_meet
        exact ⟨rfl, HMID, HPASS⟩
    | false =>
      by_cases e1 : 0 ≤ e
      · by_cases e2 : e < t
        · have e2' : t > e := e2
          have HR := Lib.hid (HPS.out (.inl ⟨e1, .inl e2⟩))
          clear HPS
          go_wp2_with (first | ((go_at_call 70; ((with_reducible refine (HBY.out _ (by exact balloc (bself w) _)).mono ?_); rintro _ _ ⟨rfl, rfl⟩))) | fail)
          go_ret
          exact HBAD.out _ (by repeat (first | (with_reducible exact Below.refl _ _) | (with_reducible assumption) | (with_reducible refine bset ?_ ?_ _) | (with_reducible refine balloc ?_ _) | (with_reducible refine Below.drew ?_) | (with_reducible refine bdrewN ?_ _) | (with_reducible refine bnext ?_ (by with_reducible assumption)) | exact Nat.le_refl _ | (simp; done) | omega | (simp; omega))) HR.out
        have HPASS : Hid (Pass s t false) := Lib.hid ⟨fun _ => by rw [← HE.out]; exact ⟨by omega, fun h => by cases h⟩, fun h => by cases h⟩
        clear HPS
        go_wp2_with (first | ((go_at_call 70; ((with_reducible refine (HBY.out _ (by exact balloc (bself w) _)).mono ?_); rintro _ _ ⟨rfl, rfl⟩))) | fail)
        go_meet
        exact ⟨rfl, HMID, HPASS⟩
      · have HPASS : Hid (Pass s t false) := Lib.hid ⟨fun h => absurd (by rw [HE.out]; exact h) e1, fun h => by cases h⟩
        clear HPS
        go_wp2_with (first | ((go_at_call 70; ((with_reducible refine (HBY.out _ (by exact balloc (bself w) _)).mono ?_); rintro _ _ ⟨rfl, rfl⟩))) | fail)
        go_meet
        exact ⟨rfl, HMID, HPASS⟩
  case rest =>
    obtain ⟨rfl, HM, HP⟩ := hcut
    rename World => w1
    clear HPS HBY KEY ht
    have hA1 := H.out.next HM.out.below
    have hF1 := hA1.blk.lt
    have d0 := hA1.blk.get 0
    have d1 := hA1.blk.get 1
    have d2 := hA1.blk.get 2
    have d3 := hA1.blk.get 3
    have d4 := hA1.blk.get 4
    have d5 := hA1.blk.get 5
    have g1 := HM.out.arg.get 1
    have g2 := HM.out.arg.get 2
    have g3 := HM.out.arg.get 3
    simp only [List.getElem?_toArray, List.getElem?_cons_succ, List.getElem?_cons_zero] at d0 d1 d2 d3 d4 d5 g1 g2 g3
    have hlo := HI.out.lo
    have htop := HI.out.top
    have hzw : w.heap.size < w1.heap.size := HM.out.arg.lt
    obtain ⟨fr, hfr⟩ : ∃ fr, fr = max af s.done := ⟨_, rfl⟩
    obtain ⟨up, hup⟩ : ∃ up, up = min t (s.taken + room) := ⟨_, rfl⟩
    have HFR := Lib.hid hfr
    have HUP := Lib.hid hup
    have ew : IntKind.i64.wrap (s.taken + room) = s.taken + room := IntWalk.i64_in _ (by omega)
    go_upto_region 9 with (fail)
    go_cut [6, 7] (fun s6 s7 wx => s6 = .int .i64 fr ∧ s7 = .int .i64 up ∧ Hid (Below w1.heap.size w1 wx))
    case first =>
      go_quiet (fail)
      go_wp2
      all_goals
        go_meet
        refine ⟨?_, ?_, Lib.hid (by repeat (first | (with_reducible exact Below.refl _ _) | (with_reducible assumption) | (with_reducible refine bset ?_ ?_ _) | (with_reducible refine balloc ?_ _) | (with_reducible refine Below.drew ?_) | (with_reducible refine bdrewN ?_ _) | (with_reducible refine bnext ?_ (by with_reducible assumption)) | exact Nat.le_refl _ | (simp; done) | omega | (simp; omega)))⟩
        · rw [HFR.out]; congr 1; omega
        · rw [HUP.out]; congr 1; omega
    case rest =>
      obtain ⟨rfl, rfl, HB2⟩ := hcut
      rename World => w2
      have HM2 : Hid (ArrMid w w2 ak af G al gc an ac) := Lib.hid ⟨HM.out.below.trans (HB2.out.mono HM.out.below.size), HM.out.arg.next HB2.out⟩
      have hA2 := H.out.next HM2.out.below
      have HA2 := Lib.hid hA2
      have hF2 := hA2.blk.lt
      clear d0 d1 d2 d3 d4 d5 g1 g2 g3 hA1 hF1 hzw ew hfr hup HB2 HM
      have d2 := hA2.blk.get 2
      have d3 := hA2.blk.get 3
      have g1 := HM2.out.arg.get 1
      have g2 := HM2.out.arg.get 2
      simp only [List.getElem?_toArray, List.getElem?_cons_succ, List.getElem?_cons_zero] at d2 d3 g1 g2
      have hzw : w.heap.size < w2.heap.size := HM2.out.arg.lt
      clear hA2
      go_wp2
      go_quiet (fail)
      go_upto_if 97 with (fail)
      go_cut [8, 9] (fun s8 s9 wx => ∃ s1 d1 m1 D1 dc1 M1 mc1, s8 = .int .i64 d1 ∧ s9 = .slice M1 (List.length m1) mc1 ∧ Hid (ArrEnd w wx B F room s s1 (rv.arrive room s ⟨ak, af, ad, an, ac⟩) t D M mc d1 m1 D1 dc1 M1 mc1 ak af G al gc an ac))
      case first =>
        have hh : ¬ (af < 0 ∨ 1048576 ≤ af ∨ 1048576 ≤ af + (ad.length : Int)) := by rw [← HAL.out]; omega
        have hh2 : ¬ 64 < ad.length := by rw [← HAL.out]; exact c4
        have hto : rv.to_ ⟨ak, af, ad, an, ac⟩ = t := by unfold rv.to_; simp only; rw [← HAL.out]; exact HT.out
        have hh3 : Pass s (rv.to_ ⟨ak, af, ad, an, ac⟩) an := by rw [hto]; exact HP.out
        have hfe : rv.frOf s ⟨ak, af, ad, an, ac⟩ = fr := by rw [HFR.out]; rfl
        have hue : rv.upOf room s ⟨ak, af, ad, an, ac⟩ = up := by rw [HUP.out]; unfold rv.upOf; rw [hto]
        by_cases hlt : fr < up
        · have hrng : 0 ≤ fr ∧ af ≤ fr ∧ up ≤ t ∧ up ≤ s.taken + room := by rw [HFR.out, HUP.out]; omega
          have hans := rv.ans_of HI.out hrng.1 hlt (by omega)
          have HADD := Lib.hid (fun wz (hb : Below w2.heap.size w2 wz) => hole_Add_res s.done s.more ⟨fr, up⟩ M mc wz ((HA2.out.next hb).moreLt) (by have := HN.out; omega))
          rw [hans] at HADD
          clear hans
          by_cases hfull : 16 < (had.addTo s.done s.more ⟨fr, up⟩).2.length
          · have HR := Lib.hid (rv.arrive_full hh hh2 hh3 (by rw [hfe, hue]; exact hlt) (by rw [hfe, hue]; exact hfull))
            rw [if_pos hfull] at HADD
            have HEND : Hid (∀ wx, Below w2.heap.size w2 wx → ArrRes w B F room s.more (rv.arrive room s ⟨ak, af, ad, an, ac⟩) D M (.returned (.int .i64 9)) wx) := Lib.hid (fun wx hb => ArrRes.no H.out HR.out (HM2.out.below.trans (hb.mono HM2.out.below.size)))
            clear hh hh2 hto hh3 hfe hue hfull HR
            go_wp2_with (first
              | (go_at_call 71; ((refine (HADD.out _ (by exact bdrewN (bself _) _)).mono ?_); rintro e w3 ⟨A3, c3, rfl, hm3, hb3⟩; have HB3 := Lib.hid hb3; clear hm3 hb3))
              | fail)
            go_ret
            exact HEND.out _ (bnext (bdrewN (bself _) _) HB3.out)
          · have HR := Lib.hid (rv.arrive_ok hh hh2 hh3 (by rw [hfe, hue]; exact hlt) (by rw [hfe, hue]; exact hfull))
            rw [if_neg hfull] at HADD
            obtain ⟨fn, rfl⟩ : ∃ fn : Nat, fr = (fn : Int) := ⟨fr.toNat, by omega⟩
            obtain ⟨f1, hf1⟩ : ∃ f1 : Nat, (fn : Int) - af = (f1 : Int) := ⟨((fn : Int) - af).toNat, by omega⟩
            obtain ⟨m, hm⟩ : ∃ m : Nat, up - af = (f1 : Int) + (m : Int) := ⟨(up - fn).toNat, by omega⟩
            have hGl := HG.out.1
            have hgcm : gc ≤ maxLen := HG.out.2.1
            have hTT := HT.out
            have hfm : f1 + m ≤ al := by omega
            have HCUT := Lib.hid (fun W => run_cut_lh elemU8 G al gc f1 m (by rw [← HAL.out] at hGl; omega) ((fn : Int) - af) (up - af) hf1 hm W)
            have hpart : rv.part room s ⟨ak, af, ad, an, ac⟩ = (ad.drop f1).take m := by
              unfold rv.part
              rw [hfe, hue]
              simp only
              rw [show ((fn : Int) - af).toNat = f1 by omega, show (up - (fn : Int)).toNat = m by omega]
            have hpl : ((ad.drop f1).take m).length = m := by rw [List.length_take, List.length_drop, ← HAL.out]; omega
            have HGP : Hid (SlRep Rep.u8 w S ((ad.drop f1).take m) (cutA G gc f1 1) (gc - f1)) := Lib.hid (HG.out.cut (by rw [← HAL.out]; exact hfm))
            have HKEEP := Lib.hid (fun w3 (hb : Below w2.heap.size w2 w3) => recv_keep B F room s D dc M mc fn ((ad.drop f1).take m) (cutA G gc f1 1) (gc - f1) S w3 (HA2.out.next hb) HN.out (HGP.out.keep fun k hk => ⟨hk, (hb.block k (by have := (HS.out k hk).1; omega)).trans (HM2.out.below.block k (HS.out k hk).1)⟩) (fun k hk => ⟨by have := (HS.out k hk).1; have := hb.size; omega, (HS.out k hk).2⟩) (by omega) (by rw [hpl]; omega))
            rw [hpl] at HKEEP
            rw [hfe, hue, hpart, hto] at HR
            simp only [Int.toNat_natCast] at HR
            generalize (had.addTo s.done s.more ⟨(fn : Int), up⟩).1 = d1 at *
            generalize (had.addTo s.done s.more ⟨(fn : Int), up⟩).2 = m1 at *
            generalize rv.kept s.more s.data fn ((ad.drop f1).take m) = kd at *
            have hw12 : Below w.heap.size w w2 := HM2.out.below
            have HW12 := Lib.hid hw12
            clear hh hh2 hto hh3 hfe hue hfull hpart hpl hf1 hm hTT HGP hw12
            go_upto_region 14 with (first
              | (go_at_call 71; ((refine (HADD.out _ (by exact bdrewN (bself _) _)).mono ?_); rintro e w3 ⟨A3, c3, rfl, hm3, hb3⟩; have HB3 := Lib.hid hb3; have HM3 := Lib.hid hm3; clear hm3 hb3))
              | fail)
            have hb3 : Below w2.heap.size w2 w3 := bnext (bdrewN (bself _) _) HB3.out
            have y1 := (hb3.cell (p := ⟨w.heap.size, 1, none⟩) hzw).trans g1
            have y2 := (hb3.cell (p := ⟨w.heap.size, 2, none⟩) hzw).trans g2
            have hz3 : w2.heap.size ≤ w3.heap.size := hb3.size
            have HB4 := Lib.hid hb3
            have c1 := HCUT.out
            clear hb3 d2 d3 g1 g2 HADD
            go_wp2_with (first
              | (go_at_call 72; ((refine (HKEEP.out _ HB4.out).mono ?_); rintro e w4 ⟨D1, dc1, rfl, k1, k2, k3⟩; have K1 := Lib.hid k1; have K2 := Lib.hid k2; have K3 := Lib.hid k3; clear k1 k2 k3))
              | fail)
            go_meet
            refine ⟨{ s with data := kd }, d1, m1, D1, dc1, A3, c3, rfl, rfl, Lib.hid ⟨K1.out, HR.out, ?_, (Stays.of_below (HW12.out.trans (HB4.out.mono HW12.out.size)) _).comp K2.out, K3.out.below (Nat.le_trans HW12.out.size HB4.out.size), ?_, ?_⟩⟩
            · refine HM3.out.keep fun k hk => ?_
              have h1 : w2.heap.size ≤ k := hk.1
              have h2 : k < w3.heap.size := hk.2
              have h3 := HA2.out.lo
              have hnF : k ≠ F := by omega
              have hnD : blkOf D ≠ some k := fun e => by have := (HA2.out.data.lt k e).2; omega
              refine ⟨⟨by omega, Nat.lt_of_lt_of_le h2 K2.out.size, hnF, fun e => ?_⟩, K2.out.block k h2 (fun e => e.elim hnF hnD)⟩
              rcases K3.out.inf e with e2 | e2
              · exact hnD e2
              · omega
            · intro k hne hk
              rcases HM3.out.blk with e | ⟨q, hq, hq2⟩
              · exact absurd e hne
              · rw [hq] at hk
                cases hk
                have h1 : w2.heap.size ≤ k := hq2.1
                exact .inr (by omega)
            · refine (HM2.out.arg.next HB4.out).stays K2.out (fun e => ?_)
              rcases e with e | e
              · omega
              · have := (H.out.data.lt _ e).2
                omega
        · have HEND : Hid (∀ nq, ArrEnd w (w2.drewN nq) B F room s s (rv.arrive room s ⟨ak, af, ad, an, ac⟩) t D M mc s.done s.more D dc M mc ak af G al gc an ac) := Lib.hid (fun nq => by
            have hb : Below w2.heap.size w2 (w2.drewN nq) := bdrewN (bself w2) nq
            exact ⟨HA2.out.next hb, by rw [rv.arrive_none hh hh2 hh3 (by rw [hfe, hue]; exact hlt), hto], (HA2.out.next hb).more, Stays.of_below (HM2.out.below.trans (hb.mono HM2.out.below.size)) _, Anew.refl _ _, fun k h1 h2 => .inl ⟨h1, h2⟩, HM2.out.arg.next hb⟩)
          clear hh hh2 hto hh3 hfe hue
          go_wp2
          go_meet
          exact ⟨s, s.done, s.more, D, dc, M, mc, rfl, rfl, Lib.hid (HEND.out _)⟩
      case rest =>
        obtain ⟨s1, d1, m1, D1, dc1, M1, mc1, rfl, rfl, HE⟩ := hcut
        rename World => w5
        have hF5 := HE.out.at_.blk.lt
        have hzw5 := HE.out.arg.lt
        have q2 := HE.out.at_.blk.get 2
        have q3 := HE.out.at_.blk.get 3
        have q5 := HE.out.at_.blk.get 5
        have g3 := HE.out.arg.get 3
        have f2 := HE.out.at_.frozen 2
        have f3 := HE.out.at_.frozen 3
        have f5 := HE.out.at_.frozen 5
        simp only [List.getElem?_toArray, List.getElem?_cons_succ, List.getElem?_cons_zero] at q2 q3 q5 g3
        have h3 := (HE.out.at_.put2 d1).put3 (HE.out.at_.rowKeep 2 (.int .i64 d1) HE.out.more)
        have HEND : Hid (∀ wx, Stays w5 wx (fun k => k = F) → HAt wx B F room { s1 with done := d1, more := m1, end_ := if an = true then t else s1.end_ } D1 dc1 M1 mc1 → ArrRes w B F room s.more (rv.arrive room s ⟨ak, af, ad, an, ac⟩) D M (.returned (.int .i64 0)) wx) := Lib.hid (fun wx hs hh => by
          rw [HE.out.res]
          refine ⟨D1, dc1, M1, mc1, rfl, hh, (HE.out.stay.mono fun k _ hk => hk.hf).trans hs (fun k _ hk => .inl hk), fun k hk => ?_⟩
          rcases hk with e | e | e
          · exact .inl (.inl e)
          · exact (HE.out.na.inf e).imp (fun e => .inr (.inl e)) id
          · exact (HE.out.nm k e.1 e.2).imp (fun e => .inr (.inr e)) id)
        have H3 := Lib.hid h3
        clear h3
        cases an with
        | true =>
          go_wp2
          go_ret
          exact HEND.out _ (((Stays.set _ _ _ _).comp (Stays.set _ _ _ _)).comp (Stays.set _ _ _ _)) (H3.out.put5 t)
        | false =>
          go_wp2
          go_ret
          exact HEND.out _ ((Stays.set _ _ _ _).comp (Stays.set _ _ _ _)) H3.out
end Go.Proofs.Ytdldfllllgogoaa
