/- Package recv: keep. No condition. -/
import Derived.Test.YtdldfllllgogoaaRecv2
import Derived.Test.YtdldfllllgogoaaAppz
import Derived.Test.YtdldfllllgogoaaColl
import Derived.Test.YtdldfllllgogoaaAnew
import Derived.Deep.DeepCutAuto
import Derived.BigQuiet
import Derived.IntWalk
namespace Go.Proofs.Ytdldfllllgogoaa
open Go.RowKit
set_option linter.unusedSimpArgs false

theorem u8NeHearer : 5 ≠ 101 := by decide
/-- what the hearer holds -/
def HF (F : Nat) (D M : Option Addr) (l : List Rng) (k : Nat) : Prop := k = F ∨ blkOf D = some k ∨ (l ≠ [] ∧ blkOf M = some k)
/-- what it writes -/
def HW (F : Nat) (D : Option Addr) (k : Nat) : Prop := k = F ∨ blkOf D = some k
theorem HW.hf {F : Nat} {D M : Option Addr} {l : List Rng} {k : Nat} (h : HW F D k) : HF F D M l k := h.elim .inl fun h => .inr (.inl h)
theorem flat_rng : Flat Rng.rep := fun _ _ _ _ _ h => Rng.rep_iff.2 (Rng.rep_iff.1 h)
theorem SlRep.blk {α : Type} {R : Rep α} {w : World} {S : Nat → Prop} {l : List α} {A : Option Addr} {c : Nat} (h : SlRep R w S l A c) : l = [] ∨ ∃ k, blkOf A = some k ∧ S k := h.2.2.imp id fun ⟨b, o, e, hb, _⟩ => ⟨b, by rw [e]; rfl, hb⟩
theorem SlRep.nilAt {α : Type} {R : Rep α} {w : World} {S : Nat → Prop} {A : Option Addr} {c : Nat} (hc : c ≤ maxLen) : SlRep R w S [] A c := ⟨Nat.zero_le _, hc, .inl rfl⟩
section
variable {w w' : World} {B F : Nat} {room : Int} {s : rv.St} {D M : Option Addr} {dc mc : Nat} {No : Nat → Prop}
theorem HAt.more' (h : HAt w B F room s D dc M mc) : SlRep Rng.rep w (fun k => blkOf M = some k) s.more M mc := h.more.tight flat_rng
theorem HAt.moreLt (h : HAt w B F room s D dc M mc) : SlRep Rng.rep w (· < w.heap.size) s.more M mc := h.more.within fun _ hk => hk.2.1
theorem HAt.mset (h : HAt w B F room s D dc M mc) : s.more = [] ∨ ∃ k, blkOf M = some k ∧ rv.InM w B F D k := h.more.blk
theorem HAt.apart (h : HAt w B F room s D dc M mc) : blkOf D ≠ some F := h.blk.apart h.data u8NeHearer
theorem HAt.stays (h : HAt w B F room s D dc M mc) (hs : Stays w w' No) (hn : ∀ k, HF F D M s.more k → ¬ No k) : HAt w' B F room s D dc M mc := by
  refine ⟨h.lo, h.blk.stays hs (hn _ (.inl rfl)), h.data.stays hs fun k hk => hn k (.inr (.inl hk)), ?_⟩
  rcases h.mset with e | ⟨k, hk, hin⟩
  · rw [e]; exact SlRep.nilAt h.more.2.1
  · by_cases hne : s.more = []
    · rw [hne]; exact SlRep.nilAt h.more.2.1
    refine h.more'.keep fun q hq => ?_
    rw [hk] at hq
    cases hq
    exact ⟨⟨hin.1, Nat.lt_of_lt_of_le hin.2.1 hs.size, hin.2.2⟩, hs.block k hin.2.1 (hn k (.inr (.inr ⟨hne, hk⟩)))⟩
theorem HAt.frozen (h : HAt w B F room s D dc M mc) (j : Nat) : w.frozen? ⟨F, j, none⟩ = false := h.blk.frozen j
/-- the row of bytes is another one: the call's own, in its place or new -/
theorem HAt.turn {w2 : World} (h : HAt w B F room s D dc M mc) {d : List UInt8} {D2 : Option Addr} {dc2 : Nat} (hs : Stays w w2 (HW F D)) (hF : BlkA w2 F 101 #[.int .i64 room, .slice D2 d.length dc2, .int .i64 s.done, .slice M s.more.length mc, .int .i64 s.taken, .int .i64 s.end_]) (hd : Own w2 B 5 1 D2 d.length dc2 (d.map rv.u8v)) (hn : Anew w D2 D) : HAt w2 B F room { s with data := d } D2 dc2 M mc := by
  refine ⟨h.lo, hF, hd, ?_⟩
  rcases h.mset with e | ⟨k, hk, hin⟩
  · simp only; rw [e]; exact SlRep.nilAt h.more.2.1
  · refine h.more'.keep fun q hq => ?_
    rw [hk] at hq
    cases hq
    refine ⟨⟨hin.1, Nat.lt_of_lt_of_le hin.2.1 hs.size, hin.2.2.1, fun e => ?_⟩, hs.block k hin.2.1 (fun e => e.elim hin.2.2.1 hin.2.2.2)⟩
    rcases hn.inf e with e2 | e2
    · exact hin.2.2.2 e2
    · have := hin.2.1; omega
theorem HAt.grow {wa w2 : World} (h : HAt w B F room s D dc M mc) (hb : Below w.heap.size w wa) {D2 : Option Addr} {n2 dc2 : Nat} {d : List UInt8} (hg : Grew wa w2 D D2) (ho : Own w2 B 5 1 D2 n2 dc2 (d.map rv.u8v)) :
    HAt (w2.setCell ⟨F, 1, none⟩ (.slice D2 n2 dc2)) B F room { s with data := d } D2 dc2 M mc ∧ Stays w (w2.setCell ⟨F, 1, none⟩ (.slice D2 n2 dc2)) (HW F D) ∧ Anew w D2 D := by
  have hn : n2 = d.length := by have h := ho.len; rw [List.length_map] at h; omega
  subst hn
  have hs1 : Stays w w2 (fun k => blkOf D = some k) := (Stays.of_below hb (fun k => blkOf D = some k)).trans (Stays.grew hg) (fun k _ hk => hk)
  have hF2 : BlkA w2 F _ _ := h.blk.stays hs1 h.apart
  have hD2F : blkOf D2 ≠ some F := hF2.apart ho u8NeHearer
  have hs : Stays w (w2.setCell ⟨F, 1, none⟩ (.slice D2 d.length dc2)) (HW F D) := (hs1.mono fun k _ hk => .inr hk).trans (Stays.set w2 F 1 _) (fun k _ hk => .inl hk)
  have hn : Anew w D2 D := (Anew.of_grew hg).below hb.size
  exact ⟨h.turn hs (by simpa using hF2.set 1 (.slice D2 d.length dc2)) (ho.setCell hD2F _) hn, hs, hn⟩
theorem HAt.setByte {g : Nat} (h : HAt w B F room s (some ⟨g, 0, none⟩) dc M mc) (j : Nat) (x : UInt8) : HAt (w.setCell ⟨g, j, none⟩ (rv.u8v x)) B F room { s with data := s.data.set j x } (some ⟨g, 0, none⟩) dc M mc := by
  have hgF : g ≠ F := fun e => h.apart (by rw [e]; rfl)
  refine h.turn (d := s.data.set j x) ((Stays.set w g j _).mono fun k _ hk => .inr (by rw [hk]; rfl)) ?_ ?_ (Anew.refl _ _)
  · rw [List.length_set]
    exact h.blk.setCell hgF _
  · rw [List.length_set, List.map_set]
    exact h.data.setAt _
end
namespace rv
theorem putAll_yes {more : List Rng} {fr : Nat} {b d : List UInt8} {k : Nat} (h : anyB more ((fr + k : Nat) : Int) = true) : putAll more fr b (k + 1) d = putAll more fr b k d := by
  rw [putAll, if_pos (anyB_iff.1 h)]
theorem putAll_no {more : List Rng} {fr : Nat} {b d : List UInt8} {k : Nat} (h : anyB more ((fr + k : Nat) : Int) = false) : putAll more fr b (k + 1) d = (putAll more fr b k d).set (fr + k) (b.getD k 0) := by
  rw [putAll, if_neg (fun e => by rw [anyB_iff.2 e] at h; cases h)]
end rv
/-- in the midst of keep -/
structure KeepAt (w wx : World) (B F : Nat) (room : Int) (s : rv.St) (fr : Nat) (d : List UInt8) (D D1 : Option Addr) (dc1 : Nat) (M : Option Addr) (mc : Nat) : Prop where
  at_ : HAt wx B F room { s with data := d } D1 dc1 M mc
  box : BlkA wx w.heap.size 3 #[.int .i64 (fr : Int)]
  stay : Stays w wx (HW F D)
  na : Anew w D1 D
def KeepRes (w : World) (B F : Nat) (room : Int) (s : rv.St) (d : List UInt8) (D M : Option Addr) (mc : Nat) (e : Ending) (w' : World) : Prop :=
  ∃ D1 dc1, e = .returned (.tuple #[]) ∧ HAt w' B F room { s with data := d } D1 dc1 M mc ∧ Stays w w' (HW F D) ∧ Anew w D1 D

set_option maxRecDepth 100000 in
set_option maxHeartbeats 2000000 in
theorem recv_keep (B F : Nat) (room : Int) (s : rv.St) (D : Option Addr) (dc : Nat) (M : Option Addr) (mc fr : Nat) (b : List UInt8) (G : Option Addr) (gc : Nat) (S : Nat → Prop) (w : World) (h : HAt w B F room s D dc M mc) (hn : s.more.length ≤ 16) (hG : SlRep Rep.u8 w S b G gc) (hS : ∀ k, S k → k < w.heap.size ∧ ¬ HF F D M s.more k) (hfr : fr ≤ 1048576) (hb : b.length ≤ 4096) :
    Calls Try.prog 72 #[.pointer (some ⟨F, 0, none⟩), .int .i64 (fr : Int), .slice G b.length gc] w (KeepRes w B F room s (rv.kept s.more s.data fr b) D M mc) := by
  have H := Lib.hid h
  have HG := Lib.hid hG
  have HS := Lib.hid hS
  have HN := Lib.hid hn
  have c1 := h.blk.get 1
  have hFl := h.blk.lt
  have hf1 := h.blk.frozen 1
  simp only [List.getElem?_toArray, List.getElem?_cons_succ, List.getElem?_cons_zero] at c1
  have hdl : s.data.length ≤ 9223372036854775807 := by have := h.data.cap; unfold maxLen at this; omega
  obtain ⟨m, hm⟩ : ∃ m : Nat, m = fr + b.length - s.data.length := ⟨_, rfl⟩
  have HK : Hid (rv.kept s.more s.data fr b = rv.putAll s.more fr b b.length (s.data ++ List.replicate m 0)) := Lib.hid (by unfold rv.kept; rw [hm])
  have HM := Lib.hid hm
  obtain ⟨bl, hbl⟩ : ∃ bl : Nat, bl = b.length := ⟨_, rfl⟩
  obtain ⟨dl, hdd⟩ : ∃ dl : Nat, dl = s.data.length := ⟨_, rfl⟩
  rw [← hdd] at c1 hdl hm
  rw [← hbl] at hb hm ⊢
  have HBL := Lib.hid hbl
  have HDD := Lib.hid hdd
  have e1 : IntKind.i64.wrap ((fr : Int) + (bl : Int)) = (fr : Int) + (bl : Int) := IntWalk.i64_in _ (by omega)
  have e2 : IntKind.i64.wrap ((fr : Int) + (bl : Int) - (dl : Int)) = (fr : Int) + (bl : Int) - (dl : Int) := IntWalk.i64_in _ (by omega)
  clear h hG hS hn hbl hdd
  go_enter Try.func72, Try.ntmps72
  go_wp2
  go_quiet (fail)
  clear e1 e2
  go_upto_if 21 with (fail)
  go_cut [] (fun wx => ∃ D1 dc1, Hid (KeepAt w wx B F room s fr (s.data ++ List.replicate m 0) D D1 dc1 M mc))
  case first =>
    by_cases hgt : dl < fr + bl
    · have hgt' : (fr : Int) + (bl : Int) - (dl : Int) > 0 := by omega
      have hsm : (fr : Int) + (bl : Int) - (dl : Int) = (m : Int) := by omega
      have HSM := Lib.hid hsm
      have hm0 : 0 < m := by omega
      have hx : ∀ nq, BlkA ((w.alloc (.cells #[.int .i64 (fr : Int)] 3)).drewN nq) F 101 #[.int .i64 room, .slice D dl dc, .int .i64 s.done, .slice M s.more.length mc, .int .i64 s.taken, .int .i64 s.end_] := fun nq => by
        have h := H.out.blk
        rw [← HDD.out] at h
        exact h.next (bdrewN (balloc (bself w) _) nq)
      have ho : ∀ nq, Own ((w.alloc (.cells #[.int .i64 (fr : Int)] 3)).drewN nq) B 5 1 D dl dc (s.data.map rv.u8v) := fun nq => by
        have h := H.out.data
        rw [← HDD.out] at h
        exact h.next (bdrewN (balloc (bself w) _) nq)
      have HX := Lib.hid hx
      have HO := Lib.hid ho
      have hmb : dl + m ≤ 2000000 := by omega
      have hap := H.out.apart
      have hlo := H.out.lo
      clear hm hsm hx ho
      go_wp2_with (at_builtin; go_loud (refine wp_appz (z := .int .u8 0) _ rfl _ _ _ _ rfl elemU8 (by kernel_rfl) rfl rfl Try.underlying3 B D dl dc _ rfl (HO.out _) m _ rfl HSM.out hm0 (by omega) (by omega) (Nat.le_of_lt (Nat.lt_of_le_of_lt hlo (HX.out _).lt)) ?_); intro D1 dc1 w6 ho6 hg6; have x3 := (HX.out _).kept hg6.grown hap; have z1 := x3.get 1; have z2 := x3.frozen 1; clear x3; simp only [List.getElem?_toArray, List.getElem?_cons_succ, List.getElem?_cons_zero] at z1; have HO6 := Lib.hid ho6; have HG6 := Lib.hid hg6; clear ho6 hg6)
      go_meet
      obtain ⟨k1, k2, k3⟩ := H.out.grow (d := s.data ++ List.replicate m 0) (bdrewN (balloc (bself w) _) _) HG6.out (by rw [List.map_append, List.map_replicate]; exact HO6.out)
      refine ⟨D1, dc1, Lib.hid ⟨k1, ?_, k2, k3⟩⟩
      refine (((BlkA.new w _ _).drewN _).kept HG6.out.grown (fun e => ?_)).setCell (fun e => ?_) _
      · have := (H.out.data.lt _ e).2
        omega
      · simp only at e
        omega
    · have hgt' : ¬ ((fr : Int) + (bl : Int) - (dl : Int) > 0) := by omega
      have hm0 : m = 0 := by omega
      have HH : Hid (∀ nq, KeepAt w ((w.alloc (.cells #[.int .i64 (fr : Int)] 3)).drewN nq) B F room s fr (s.data ++ List.replicate m 0) D D dc M mc) := Lib.hid (fun nq => by
        rw [hm0, List.replicate_zero, List.append_nil]
        exact ⟨H.out.next (bdrewN (balloc (bself w) _) nq), (BlkA.new w _ _).drewN nq, Stays.of_below (bdrewN (balloc (bself w) _) nq) _, Anew.refl _ _⟩)
      clear hm hm0 c1 hf1
      go_wp2
      go_meet
      exact ⟨D, dc, Lib.hid (HH.out _)⟩
  case rest =>
    obtain ⟨D1, dc1, HA⟩ := hcut
    rename World => w1
    have hn16 := HN.out
    have hF1 := HA.out.at_.blk.lt
    have hz1 : w.heap.size < w1.heap.size := HA.out.box.lt
    have HG1 : Hid (SlRep Rep.u8 w1 S b G gc) := Lib.hid (HG.out.keep fun k hk => ⟨hk, HA.out.stay.block k (HS.out k hk).1 (fun e => (HS.out k hk).2 e.hf)⟩)
    clear hf1 c1
    go_wp2
    go_loopw [33] (fun i wr => ∃ k : Nat, k ≤ bl ∧ i = .int .i64 k ∧ Hid (KeepAt w wr B F room s fr (rv.putAll s.more fr b k (s.data ++ List.replicate m 0)) D D1 dc1 M mc)) (fun i _ => bl - (intOf i).toNat)
    case atStart => exact ⟨0, by omega, rfl, HA⟩
    case round =>
      obtain ⟨k, hk, rfl, HR⟩ := hrel
      rename World => wr
      by_cases hlt : k < bl
      · have hlt' : (k : Int) < (bl : Int) := by omega
        have hA := HR.out.at_
        obtain ⟨gb, ob, rfl, hsb, hce⟩ := u8_at (HG.out.keep (S' := S) fun q hq => ⟨hq, HR.out.stay.block q (HS.out q hq).1 (fun e => (HS.out q hq).2 e.hf)⟩) (k := k) (by rw [← HBL.out]; exact hlt)
        have hgb : gb < wr.heap.size := Nat.lt_of_lt_of_le (HS.out gb hsb).1 HR.out.stay.size
        obtain ⟨L, hL⟩ : ∃ L, L = (rv.putAll s.more fr b k (s.data ++ List.replicate m 0)).length := ⟨_, rfl⟩
        have hLb : fr + bl ≤ L := by
          rw [hL, rv.putAll_len, List.length_append, List.length_replicate]
          have := HM.out
          have := HDD.out
          omega
        have hLm : L ≤ 9223372036854775807 := by have := hA.data.cap; unfold maxLen at this; simp only at this; omega
        have r1 := hA.blk.get 1
        have r3 := hA.blk.get 3
        have r4 := HR.out.box.get 0
        simp only [List.getElem?_toArray, List.getElem?_cons_succ, List.getElem?_cons_zero] at r1 r3 r4
        rw [← hL] at r1
        have hFr := hA.blk.lt
        have hzr := HR.out.box.lt
        obtain ⟨p, hp⟩ : ∃ p : Nat, p = fr + k := ⟨_, rfl⟩
        have ep : (fr : Int) + (k : Int) = (p : Int) := by omega
        have hpL : p < L := by omega
        have hpL' : (p : Int) < (L : Int) := by omega
        obtain ⟨g, rfl, hg1, hg2, hgc⟩ := hA.data.cell (j := p) (List.getElem?_eq_getElem (by rw [List.length_map]; rw [hL] at hpL; exact hpL))
        have hgf := hA.data.frozenAt p
        have HC := Lib.hid (recv_contains s.more fr k M mc w.heap.size wr.heap.size (wr.alloc (.cells #[.int .i64 (k : Int)] 3)) ((hA.next (balloc (bself wr) _)).moreLt) hn16 (by have h := (HR.out.box.alloc (.cells #[.int .i64 (k : Int)] 3)).get 0; simpa using h) (by simp) (by omega) (by omega) (by simp only [World.size_alloc]; omega) (by simp))
        rw [← hp] at HC
        have HP := Lib.hid hp
        have HE := Lib.hid hL
        generalize hxx : (List.map rv.u8v (rv.putAll s.more fr b k (s.data ++ List.replicate m 0)))[p]'_ = old at hgc
        clear hxx hA hp hL
        have HBK : Hid (rv.putAll s.more fr b (k + 1) (s.data ++ List.replicate m 0) = if rv.anyB s.more ((p : Nat) : Int) = true then rv.putAll s.more fr b k (s.data ++ List.replicate m 0) else (rv.putAll s.more fr b k (s.data ++ List.replicate m 0)).set p (b.getD k 0)) := Lib.hid (by
          rw [HP.out]
          split
          · next h => exact rv.putAll_yes h
          · next h => exact rv.putAll_no (by simpa using h))
        generalize b.getD k 0 = x at *
        cases hr : rv.anyB s.more ((p : Nat) : Int) with
        | true =>
          have HT := Lib.hid hr
          clear hr
          go_wp2_with (go_at_call 77; refine HC.out.mono ?_; rintro e w5 ⟨rfl, hb5⟩; rw [HT.out])
          go_roundw
          case rel =>
            refine ⟨k + 1, by omega, by go_num, Lib.hid ?_⟩
            rw [HBK.out, if_pos HT.out]
            have hb : Below wr.heap.size wr _ := bnext (balloc (bself wr) _) hb5
            exact ⟨HR.out.at_.next hb, HR.out.box.next hb, HR.out.stay.comp (Stays.of_below hb _), HR.out.na⟩
          case measure => simp [intOf]; omega
        | false =>
          have HT := Lib.hid hr
          clear hr
          go_upto_region 9 with (first
            | (go_at_call 77; refine HC.out.mono ?_; rintro e w5 ⟨rfl, hb5⟩; rw [HT.out]; have HB5 := Lib.hid hb5; clear hb5)
            | fail)
          have hb : Below wr.heap.size wr w5 := bnext (balloc (bself wr) _) HB5.out
          have HN5 : Hid (KeepAt w w5 B F room s fr (rv.putAll s.more fr b k (s.data ++ List.replicate m 0)) D (some ⟨g, 0, none⟩) dc1 M mc) := Lib.hid ⟨HR.out.at_.next hb, HR.out.box.next hb, HR.out.stay.comp (Stays.of_below hb _), HR.out.na⟩
          have s1 := (hb.cell (p := ⟨F, 1, none⟩) hFr).trans r1
          have s4 := (hb.cell (p := ⟨w.heap.size, 0, none⟩) hzr).trans r4
          have s5 : w5.cell? ⟨wr.heap.size, 0, none⟩ = some (.int .i64 (k : Int)) := (HB5.out.cell (p := ⟨wr.heap.size, 0, none⟩) (by simp)).trans (by simp)
          have sg := (hb.cell (p := ⟨g, p, none⟩) hg2).trans hgc
          have sf := (hb.frozen (p := ⟨g, p, none⟩) hg2).trans hgf
          clear hb r1 r3 r4 hgc hgf hce HC HR
          have e1 : IntKind.i64.wrap (p : Int) = (p : Int) := IntWalk.i64_in _ (by omega)
          have HEND : Hid (KeepAt w (w5.setCell ⟨g, p, none⟩ (.int .u8 (x.toNat : Int))).drew B F room s fr (rv.putAll s.more fr b (k + 1) (s.data ++ List.replicate m 0)) D (some ⟨g, 0, none⟩) dc1 M mc) := Lib.hid (by
            rw [HBK.out, if_neg (by rw [HT.out]; decide)]
            have hA := HN5.out.at_.setByte p x
            have hap := HN5.out.at_.apart
            have hD := HN5.out.na
            have hS5 : Stays w (w5.setCell ⟨g, p, none⟩ (rv.u8v x)) (HW F D) := HN5.out.stay.trans (Stays.set w5 g p (rv.u8v x)) (fun q hq e => by
              rw [e] at hq ⊢
              rcases hD.inf (k := g) rfl with e2 | e2
              · exact .inr e2
              · omega)
            have hbx : BlkA (w5.setCell ⟨g, p, none⟩ (rv.u8v x)) w.heap.size 3 #[.int .i64 (fr : Int)] := HN5.out.box.setCell (fun e => by
              simp only at e
              exact HN5.out.box.apart HN5.out.at_.data (by decide) (by rw [e]; rfl)) _
            exact ⟨hA.next (Below.drew (bself _)), hbx.next (Below.drew (bself _)), hS5.comp (Stays.of_below (Below.drew (bself _)) _), hD⟩)
          clear HN5
          go_region_law (fail)
          all_goals
            clear e1
            (try go_wp2)
            exact ⟨⟨k + 1, by omega, by go_num, HEND⟩, by simp [intOf]; omega⟩
      · obtain rfl : k = bl := by omega
        have HKR : Hid (KeepRes w B F room s (rv.kept s.more s.data fr b) D M mc (.returned (.tuple #[])) wr) := Lib.hid (by
          rw [HK.out, ← HBL.out]
          exact ⟨_, _, rfl, HR.out.at_, HR.out.stay, HR.out.na⟩)
        clear HR
        go_wp2
        go_end0
        exact HKR.out
end Go.Proofs.Ytdldfllllgogoaa
