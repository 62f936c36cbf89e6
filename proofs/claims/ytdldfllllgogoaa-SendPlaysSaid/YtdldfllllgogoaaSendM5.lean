/- Texts in one: Recv3, Send1, Send7, Tail, Send2, Play. No condition. -/
import Derived.Test.YtdldfllllgogoaaSendM4
import Derived.Deep.DeepCutAuto
import Derived.BigQuiet
import Derived.IntWalk
import Derived.OrdersHeld
import Derived.Deep.RegionHeld
import Derived.Test.YtdldfllllgogoaaSendM1
namespace Go.Proofs.Ytdldfllllgogoaa
open Go.RowKit
set_option linter.unusedSimpArgs false

theorem u8NeHearer : 5 ≠ 101 := by decide
/-- what the hearer holds -/
def HF (F : Nat) (D M : Option Addr) (l : List Rng) (k : Nat) : Prop := k = F ∨ blkOf D = some k ∨ (l ≠ [] ∧ blkOf M = some k)
/-- what it writes -/
def HW (F : Nat) (D : Option Addr) (k : Nat) : Prop := k = F ∨ blkOf D = some k
theorem HW.hf {F : Nat} {D M : Option Addr} {l : List Rng} {k : Nat} (h : HW F D k) : HF F D M l k := h.elim .inl fun h => .inr (.inl h)
theorem flat_rng : Flat Rng.rep := fun _ _ _ _ _ h => Rng.rep_iff.2 (Rng.rep_iff.1 h)
theorem SlRep.blk {α : Type} {R : Rep α} {w : World} {S : Nat → Prop} {l : List α} {A : Option Addr} {c : Nat} (h : SlRep R w S l A c) : l = [] ∨ ∃ k, blkOf A = some k ∧ S k := h.2.2.imp id fun ⟨b, o, e, hb, _⟩ => ⟨b, by rw [e]; rfl, hb⟩
theorem SlRep.nilAt {α : Type} {R : Rep α} {w : World} {S : Nat → Prop} {A : Option Addr} {c : Nat} (hc : c ≤ maxLen) : SlRep R w S [] A c := ⟨Nat.zero_le _, hc, .inl rfl⟩
section
variable {w w' : World} {B F : Nat} {room : Int} {s : rv.St} {D M : Option Addr} {dc mc : Nat} {No : Nat → Prop}
theorem HAt.more' (h : HAt w B F room s D dc M mc) : SlRep Rng.rep w (fun k => blkOf M = some k) s.more M mc := h.more.tight flat_rng
theorem HAt.moreLt (h : HAt w B F room s D dc M mc) : SlRep Rng.rep w (· < w.heap.size) s.more M mc := h.more.within fun _ hk => hk.2.1
theorem HAt.mset (h : HAt w B F room s D dc M mc) : s.more = [] ∨ ∃ k, blkOf M = some k ∧ rv.InM w B F D k := h.more.blk
theorem HAt.apart (h : HAt w B F room s D dc M mc) : blkOf D ≠ some F := h.blk.apart h.data u8NeHearer
theorem HAt.stays (h : HAt w B F room s D dc M mc) (hs : Stays w w' No) (hn : ∀ k, HF F D M s.more k → ¬ No k) : HAt w' B F room s D dc M mc := by
  refine ⟨h.lo, h.blk.stays hs (hn _ (.inl rfl)), h.data.stays hs fun k hk => hn k (.inr (.inl hk)), ?_⟩
  rcases h.mset with e | ⟨k, hk, hin⟩
  · rw [e]; exact SlRep.nilAt h.more.2.1
  · by_cases hne : s.more = []
    · rw [hne]; exact SlRep.nilAt h.more.2.1
    refine h.more'.keep fun q hq => ?_
    rw [hk] at hq
    cases hq
    exact ⟨⟨hin.1, Nat.lt_of_lt_of_le hin.2.1 hs.size, hin.2.2⟩, hs.block k hin.2.1 (hn k (.inr (.inr ⟨hne, hk⟩)))⟩
theorem HAt.frozen (h : HAt w B F room s D dc M mc) (j : Nat) : w.frozen? ⟨F, j, none⟩ = false := h.blk.frozen j
/-- the row of bytes is another one: the call's own, in its place or new -/
theorem HAt.turn {w2 : World} (h : HAt w B F room s D dc M mc) {d : List UInt8} {D2 : Option Addr} {dc2 : Nat} (hs : Stays w w2 (HW F D)) (hF : BlkA w2 F 101 #[.int .i64 room, .slice D2 d.length dc2, .int .i64 s.done, .slice M s.more.length mc, .int .i64 s.taken, .int .i64 s.end_]) (hd : Own w2 B 5 1 D2 d.length dc2 (d.map rv.u8v)) (hn : Anew w D2 D) : HAt w2 B F room { s with data := d } D2 dc2 M mc := by
  refine ⟨h.lo, hF, hd, ?_⟩
  rcases h.mset with e | ⟨k, hk, hin⟩
  · simp only; rw [e]; exact SlRep.nilAt h.more.2.1
  · refine h.more'.keep fun q hq => ?_
    rw [hk] at hq
    cases hq
    refine ⟨⟨hin.1, Nat.lt_of_lt_of_le hin.2.1 hs.size, hin.2.2.1, fun e => ?_⟩, hs.block k hin.2.1 (fun e => e.elim hin.2.2.1 hin.2.2.2)⟩
    rcases hn.inf e with e2 | e2
    · exact hin.2.2.2 e2
    · have := hin.2.1; omega
theorem HAt.grow {wa w2 : World} (h : HAt w B F room s D dc M mc) (hb : Below w.heap.size w wa) {D2 : Option Addr} {n2 dc2 : Nat} {d : List UInt8} (hg : Grew wa w2 D D2) (ho : Own w2 B 5 1 D2 n2 dc2 (d.map rv.u8v)) :
    HAt (w2.setCell ⟨F, 1, none⟩ (.slice D2 n2 dc2)) B F room { s with data := d } D2 dc2 M mc ∧ Stays w (w2.setCell ⟨F, 1, none⟩ (.slice D2 n2 dc2)) (HW F D) ∧ Anew w D2 D := by
  have hn : n2 = d.length := by have h := ho.len; rw [List.length_map] at h; omega
  subst hn
  have hs1 : Stays w w2 (fun k => blkOf D = some k) := (Stays.of_below hb (fun k => blkOf D = some k)).trans (Stays.grew hg) (fun k _ hk => hk)
  have hF2 : BlkA w2 F _ _ := h.blk.stays hs1 h.apart
  have hD2F : blkOf D2 ≠ some F := hF2.apart ho u8NeHearer
  have hs : Stays w (w2.setCell ⟨F, 1, none⟩ (.slice D2 d.length dc2)) (HW F D) := (hs1.mono fun k _ hk => .inr hk).trans (Stays.set w2 F 1 _) (fun k _ hk => .inl hk)
  have hn : Anew w D2 D := (Anew.of_grew hg).below hb.size
  exact ⟨h.turn hs (by simpa using hF2.set 1 (.slice D2 d.length dc2)) (ho.setCell hD2F _) hn, hs, hn⟩
theorem HAt.setByte {g : Nat} (h : HAt w B F room s (some ⟨g, 0, none⟩) dc M mc) (j : Nat) (x : UInt8) : HAt (w.setCell ⟨g, j, none⟩ (rv.u8v x)) B F room { s with data := s.data.set j x } (some ⟨g, 0, none⟩) dc M mc := by
  have hgF : g ≠ F := fun e => h.apart (by rw [e]; rfl)
  refine h.turn (d := s.data.set j x) ((Stays.set w g j _).mono fun k _ hk => .inr (by rw [hk]; rfl)) ?_ ?_ (Anew.refl _ _)
  · rw [List.length_set]
    exact h.blk.setCell hgF _
  · rw [List.length_set, List.map_set]
    exact h.data.setAt _
end
namespace rv
theorem putAll_yes {more : List Rng} {fr : Nat} {b d : List UInt8} {k : Nat} (h : anyB more ((fr + k : Nat) : Int) = true) : putAll more fr b (k + 1) d = putAll more fr b k d := by
  rw [putAll, if_pos (anyB_iff.1 h)]
theorem putAll_no {more : List Rng} {fr : Nat} {b d : List UInt8} {k : Nat} (h : anyB more ((fr + k : Nat) : Int) = false) : putAll more fr b (k + 1) d = (putAll more fr b k d).set (fr + k) (b.getD k 0) := by
  rw [putAll, if_neg (fun e => by rw [anyB_iff.2 e] at h; cases h)]
end rv
/-- in the midst of keep -/
structure KeepAt (w wx : World) (B F : Nat) (room : Int) (s : rv.St) (fr : Nat) (d : List UInt8) (D D1 : Option Addr) (dc1 : Nat) (M : Option Addr) (mc : Nat) : Prop where
  at_ : HAt wx B F room { s with data := d } D1 dc1 M mc
  box : BlkA wx w.heap.size 3 #[.int .i64 (fr : Int)]
  stay : Stays w wx (HW F D)
  na : Anew w D1 D
def KeepRes (w : World) (B F : Nat) (room : Int) (s : rv.St) (d : List UInt8) (D M : Option Addr) (mc : Nat) (e : Ending) (w' : World) : Prop :=
  ∃ D1 dc1, e = .returned (.tuple #[]) ∧ HAt w' B F room { s with data := d } D1 dc1 M mc ∧ Stays w w' (HW F D) ∧ Anew w D1 D

set_option maxRecDepth 100000 in
set_option maxHeartbeats 2000000 in
theorem recv_keep (B F : Nat) (room : Int) (s : rv.St) (D : Option Addr) (dc : Nat) (M : Option Addr) (mc fr : Nat) (b : List UInt8) (G : Option Addr) (gc : Nat) (S : Nat → Prop) (w : World) (h : HAt w B F room s D dc M mc) (hn : s.more.length ≤ 16) (hG : SlRep Rep.u8 w S b G gc) (hS : ∀ k, S k → k < w.heap.size ∧ ¬ HF F D M s.more k) (hfr : fr ≤ 1048576) (hb : b.length ≤ 4096) :
    Calls Try.prog 72 #[.pointer (some ⟨F, 0, none⟩), .int .i64 (fr : Int), .slice G b.length gc] w (KeepRes w B F room s (rv.kept s.more s.data fr b) D M mc) := by
  have H := Lib.hid h
  have HG := Lib.hid hG
  have HS := Lib.hid hS
  have HN := Lib.hid hn
  have c1 := h.blk.get 1
  have hFl := h.blk.lt
  have hf1 := h.blk.frozen 1
  simp only [List.getElem?_toArray, List.getElem?_cons_succ, List.getElem?_cons_zero] at c1
  have hdl : s.data.length ≤ 9223372036854775807 := by have := h.data.cap; unfold maxLen at this; omega
  obtain ⟨m, hm⟩ : ∃ m : Nat, m = fr + b.length - s.data.length := ⟨_, rfl⟩
  have HK : Hid (rv.kept s.more s.data fr b = rv.putAll s.more fr b b.length (s.data ++ List.replicate m 0)) := Lib.hid (by unfold rv.kept; rw [hm])
  have HM := Lib.hid hm
  obtain ⟨bl, hbl⟩ : ∃ bl : Nat, bl = b.length := ⟨_, rfl⟩
  obtain ⟨dl, hdd⟩ : ∃ dl : Nat, dl = s.data.length := ⟨_, rfl⟩
  rw [← hdd] at c1 hdl hm
  rw [← hbl] at hb hm ⊢
  have HBL := Lib.hid hbl
  have HDD := Lib.hid hdd
  have e1 : IntKind.i64.wrap ((fr : Int) + (bl : Int)) = (fr : Int) + (bl : Int) := IntWalk.i64_in _ (by omega)
  have e2 : IntKind.i64.wrap ((fr : Int) + (bl : Int) - (dl : Int)) = (fr : Int) + (bl : Int) - (dl : Int) := IntWalk.i64_in _ (by omega)
  clear h hG hS hn hbl hdd
  go_enter Try.func72, Try.ntmps72
  go_wp2
  go_quiet (fail)
  clear e1 e2
  go_upto_if 21 with (fail)
  go_cut [] (fun wx => ∃ D1 dc1, Hid (KeepAt w wx B F room s fr (s.data ++ List.replicate m 0) D D1 dc1 M mc))
  case first =>
    by_cases hgt : dl < fr + bl
    · have hgt' : (fr : Int) + (bl : Int) - (dl : Int) > 0 := by omega
      have hsm : (fr : Int) + (bl : Int) - (dl : Int) = (m : Int) := by omega
      have HSM := Lib.hid hsm
      have hm0 : 0 < m := by omega
      have hx : ∀ nq, BlkA ((w.alloc (.cells #[.int .i64 (fr : Int)] 3)).drewN nq) F 101 #[.int .i64 room, .slice D dl dc, .int .i64 s.done, .slice M s.more.length mc, .int .i64 s.taken, .int .i64 s.end_] := fun nq => by
        have h := H.out.blk
        rw [← HDD.out] at h
        exact h.next (bdrewN (balloc (bself w) _) nq)
      have ho : ∀ nq, Own ((w.alloc (.cells #[.int .i64 (fr : Int)] 3)).drewN nq) B 5 1 D dl dc (s.data.map rv.u8v) := fun nq => by
        have h := H.out.data
        rw [← HDD.out] at h
        exact h.next (bdrewN (balloc (bself w) _) nq)
      have HX := Lib.hid hx
      have HO := Lib.hid ho
      have hmb : dl + m ≤ 2000000 := by omega
      have hap := H.out.apart
      have hlo := H.out.lo
      clear hm hsm hx ho
      go_wp2_with (at_builtin; go_loud (refine wp_appz (z := .int .u8 0) _ rfl _ _ _ _ rfl elemU8 (by kernel_rfl) rfl rfl Try.underlying3 B D dl dc _ rfl (HO.out _) m _ rfl HSM.out hm0 (by omega) (by omega) (Nat.le_of_lt (Nat.lt_of_le_of_lt hlo (HX.out _).lt)) ?_); intro D1 dc1 w6 ho6 hg6; have x3 := (HX.out _).kept hg6.grown hap; have z1 := x3.get 1; have z2 := x3.frozen 1; clear x3; simp only [List.getElem?_toArray, List.getElem?_cons_succ, List.getElem?_cons_zero] at z1; have HO6 := Lib.hid ho6; have HG6 := Lib.hid hg6; clear ho6 hg6)
      go_meet
      obtain ⟨k1, k2, k3⟩ := H.out.grow (d := s.data ++ List.replicate m 0) (bdrewN (balloc (bself w) _) _) HG6.out (by rw [List.map_append, List.map_replicate]; exact HO6.out)
      refine ⟨D1, dc1, Lib.hid ⟨k1, ?_, k2, k3⟩⟩
      refine (((BlkA.new w _ _).drewN _).kept HG6.out.grown (fun e => ?_)).setCell (fun e => ?_) _
      · have := (H.out.data.lt _ e).2
        omega
      · simp only at e
        omega
    · have hgt' : ¬ ((fr : Int) + (bl : Int) - (dl : Int) > 0) := by omega
      have hm0 : m = 0 := by omega
      have HH : Hid (∀ nq, KeepAt w ((w.alloc (.cells #[.int .i64 (fr : Int)] 3)).drewN nq) B F room s fr (s.data ++ List.replicate m 0) D D dc M mc) := Lib.hid (fun nq => by
        rw [hm0, List.replicate_zero, List.append_nil]
        exact ⟨H.out.next (bdrewN (balloc (bself w) _) nq), (BlkA.new w _ _).drewN nq, Stays.of_below (bdrewN (balloc (bself w) _) nq) _, Anew.refl _ _⟩)
      clear hm hm0 c1 hf1
      go_wp2
      go_meet
      exact ⟨D, dc, Lib.hid (HH.out _)⟩
  case rest =>
    obtain ⟨D1, dc1, HA⟩ := hcut
    rename World => w1
    have hn16 := HN.out
    have hF1 := HA.out.at_.blk.lt
    have hz1 : w.heap.size < w1.heap.size := HA.out.box.lt
    have HG1 : Hid (SlRep Rep.u8 w1 S b G gc) := Lib.hid (HG.out.keep fun k hk => ⟨hk, HA.out.stay.block k (HS.out k hk).1 (fun e => (HS.out k hk).2 e.hf)⟩)
    clear hf1 c1
    go_wp2
    go_loopw [33] (fun i wr => ∃ k : Nat, k ≤ bl ∧ i = .int .i64 k ∧ Hid (KeepAt w wr B F room s fr (rv.putAll s.more fr b k (s.data ++ List.replicate m 0)) D D1 dc1 M mc)) (fun i _ => bl - (intOf i).toNat)
    case atStart => exact ⟨0, by omega, rfl, HA⟩
    case round =>
      obtain ⟨k, hk, rfl, HR⟩ := hrel
      rename World => wr
      by_cases hlt : k < bl
      · have hlt' : (k : Int) < (bl : Int) := by omega
        have hA := HR.out.at_
        obtain ⟨gb, ob, rfl, hsb, hce⟩ := u8_at (HG.out.keep (S' := S) fun q hq => ⟨hq, HR.out.stay.block q (HS.out q hq).1 (fun e => (HS.out q hq).2 e.hf)⟩) (k := k) (by rw [← HBL.out]; exact hlt)
        have hgb : gb < wr.heap.size := Nat.lt_of_lt_of_le (HS.out gb hsb).1 HR.out.stay.size
        obtain ⟨L, hL⟩ : ∃ L, L = (rv.putAll s.more fr b k (s.data ++ List.replicate m 0)).length := ⟨_, rfl⟩
        have hLb : fr + bl ≤ L := by
          rw [hL, rv.putAll_len, List.length_append, List.length_replicate]
          have := HM.out
          have := HDD.out
          omega
        have hLm : L ≤ 9223372036854775807 := by have := hA.data.cap; unfold maxLen at this; simp only at this; omega
        have r1 := hA.blk.get 1
        have r3 := hA.blk.get 3
        have r4 := HR.out.box.get 0
        simp only [List.getElem?_toArray, List.getElem?_cons_succ, List.getElem?_cons_zero] at r1 r3 r4
        rw [← hL] at r1
        have hFr := hA.blk.lt
        have hzr := HR.out.box.lt
        obtain ⟨p, hp⟩ : ∃ p : Nat, p = fr + k := ⟨_, rfl⟩
        have ep : (fr : Int) + (k : Int) = (p : Int) := by omega
        have hpL : p < L := by omega
        have hpL' : (p : Int) < (L : Int) := by omega
        obtain ⟨g, rfl, hg1, hg2, hgc⟩ := hA.data.cell (j := p) (List.getElem?_eq_getElem (by rw [List.length_map]; rw [hL] at hpL; exact hpL))
        have hgf := hA.data.frozenAt p
        have HC := Lib.hid (recv_contains s.more fr k M mc w.heap.size wr.heap.size (wr.alloc (.cells #[.int .i64 (k : Int)] 3)) ((hA.next (balloc (bself wr) _)).moreLt) hn16 (by have h := (HR.out.box.alloc (.cells #[.int .i64 (k : Int)] 3)).get 0; simpa using h) (by simp) (by omega) (by omega) (by simp only [World.size_alloc]; omega) (by simp))
        rw [← hp] at HC
        have HP := Lib.hid hp
        have HE := Lib.hid hL
        generalize hxx : (List.map rv.u8v (rv.putAll s.more fr b k (s.data ++ List.replicate m 0)))[p]'_ = old at hgc
        clear hxx hA hp hL
        have HBK : Hid (rv.putAll s.more fr b (k + 1) (s.data ++ List.replicate m 0) = if rv.anyB s.more ((p : Nat) : Int) = true then rv.putAll s.more fr b k (s.data ++ List.replicate m 0) else (rv.putAll s.more fr b k (s.data ++ List.replicate m 0)).set p (b.getD k 0)) := Lib.hid (by
          rw [HP.out]
          split
          · next h => exact rv.putAll_yes h
          · next h => exact rv.putAll_no (by simpa using h))
        generalize b.getD k 0 = x at *
        cases hr : rv.anyB s.more ((p : Nat) : Int) with
        | true =>
          have HT := Lib.hid hr
          clear hr
          go_wp2_with (go_at_call 77; refine HC.out.mono ?_; rintro e w5 ⟨rfl, hb5⟩; rw [HT.out])
          go_roundw
          case rel =>
            refine ⟨k + 1, by omega, by go_num, Lib.hid ?_⟩
            rw [HBK.out, if_pos HT.out]
            have hb : Below wr.heap.size wr _ := bnext (balloc (bself wr) _) hb5
            exact ⟨HR.out.at_.next hb, HR.out.box.next hb, HR.out.stay.comp (Stays.of_below hb _), HR.out.na⟩
          case measure => simp [intOf]; omega
        | false =>
          have HT := Lib.hid hr
          clear hr
          go_upto_region 9 with (first
            | (go_at_call 77; refine HC.out.mono ?_; rintro e w5 ⟨rfl, hb5⟩; rw [HT.out]; have HB5 := Lib.hid hb5; clear hb5)
            | fail)
          have hb : Below wr.heap.size wr w5 := bnext (balloc (bself wr) _) HB5.out
          have HN5 : Hid (KeepAt w w5 B F room s fr (rv.putAll s.more fr b k (s.data ++ List.replicate m 0)) D (some ⟨g, 0, none⟩) dc1 M mc) := Lib.hid ⟨HR.out.at_.next hb, HR.out.box.next hb, HR.out.stay.comp (Stays.of_below hb _), HR.out.na⟩
          have s1 := (hb.cell (p := ⟨F, 1, none⟩) hFr).trans r1
          have s4 := (hb.cell (p := ⟨w.heap.size, 0, none⟩) hzr).trans r4
          have s5 : w5.cell? ⟨wr.heap.size, 0, none⟩ = some (.int .i64 (k : Int)) := (HB5.out.cell (p := ⟨wr.heap.size, 0, none⟩) (by simp)).trans (by simp)
          have sg := (hb.cell (p := ⟨g, p, none⟩) hg2).trans hgc
          have sf := (hb.frozen (p := ⟨g, p, none⟩) hg2).trans hgf
          clear hb r1 r3 r4 hgc hgf hce HC HR
          have e1 : IntKind.i64.wrap (p : Int) = (p : Int) := IntWalk.i64_in _ (by omega)
          have HEND : Hid (KeepAt w (w5.setCell ⟨g, p, none⟩ (.int .u8 (x.toNat : Int))).drew B F room s fr (rv.putAll s.more fr b (k + 1) (s.data ++ List.replicate m 0)) D (some ⟨g, 0, none⟩) dc1 M mc) := Lib.hid (by
            rw [HBK.out, if_neg (by rw [HT.out]; decide)]
            have hA := HN5.out.at_.setByte p x
            have hap := HN5.out.at_.apart
            have hD := HN5.out.na
            have hS5 : Stays w (w5.setCell ⟨g, p, none⟩ (rv.u8v x)) (HW F D) := HN5.out.stay.trans (Stays.set w5 g p (rv.u8v x)) (fun q hq e => by
              rw [e] at hq ⊢
              rcases hD.inf (k := g) rfl with e2 | e2
              · exact .inr e2
              · omega)
            have hbx : BlkA (w5.setCell ⟨g, p, none⟩ (rv.u8v x)) w.heap.size 3 #[.int .i64 (fr : Int)] := HN5.out.box.setCell (fun e => by
              simp only at e
              exact HN5.out.box.apart HN5.out.at_.data (by decide) (by rw [e]; rfl)) _
            exact ⟨hA.next (Below.drew (bself _)), hbx.next (Below.drew (bself _)), hS5.comp (Stays.of_below (Below.drew (bself _)) _), hD⟩)
          clear HN5
          go_region_law (fail)
          all_goals
            clear e1
            (try go_wp2)
            exact ⟨⟨k + 1, by omega, by go_num, HEND⟩, by simp [intOf]; omega⟩
      · obtain rfl : k = bl := by omega
        have HKR : Hid (KeepRes w B F room s (rv.kept s.more s.data fr b) D M mc (.returned (.tuple #[])) wr) := Lib.hid (by
          rw [HK.out, ← HBL.out]
          exact ⟨_, _, rfl, HR.out.at_, HR.out.stay, HR.out.na⟩)
        clear HR
        go_wp2
        go_end0
        exact HKR.out
end Go.Proofs.Ytdldfllllgogoaa
namespace Go.Proofs.Ytdldfllllgogoaa
open Go.RowKit
set_option linter.unusedSimpArgs false

theorem u8NeSender : 5 ≠ 112 := by decide
/-- who sends, in the block F -/
structure SAt (w : World) (B F : Nat) (s : sd.St) (D : Option Addr) (dc : Nat) (M : Option Addr) (mc : Nat) : Prop where
  lo : B ≤ F
  blk : BlkA w F 112 #[.slice D s.data.length dc, .bool s.closed, .int .i64 s.done, .slice M s.more.length mc, .int .i64 s.next, .int .i64 s.again, .int .i64 s.edge]
  data : Own w B 5 1 D s.data.length dc (s.data.map rv.u8v)
  more : SlRep Rng.rep w (rv.InM w B F D) s.more M mc
section
variable {w w' : World} {B F : Nat} {s : sd.St} {D M : Option Addr} {dc mc : Nat} {No : Nat → Prop}
theorem SAt.next (h : SAt w B F s D dc M mc) (hb : Below w.heap.size w w') : SAt w' B F s D dc M mc :=
  ⟨h.lo, h.blk.next hb, h.data.next hb, h.more.keep fun k hk => ⟨⟨hk.1, Nat.lt_of_lt_of_le hk.2.1 hb.size, hk.2.2⟩, hb.block k hk.2.1⟩⟩
theorem SAt.more' (h : SAt w B F s D dc M mc) : SlRep Rng.rep w (fun k => blkOf M = some k) s.more M mc := h.more.tight flat_rng
theorem SAt.moreLt (h : SAt w B F s D dc M mc) : SlRep Rng.rep w (· < w.heap.size) s.more M mc := h.more.within fun _ hk => hk.2.1
theorem SAt.mset (h : SAt w B F s D dc M mc) : s.more = [] ∨ ∃ k, blkOf M = some k ∧ rv.InM w B F D k := h.more.blk
theorem SAt.apart (h : SAt w B F s D dc M mc) : blkOf D ≠ some F := h.blk.apart h.data u8NeSender
theorem SAt.stays (h : SAt w B F s D dc M mc) (hs : Stays w w' No) (hn : ∀ k, HF F D M s.more k → ¬ No k) : SAt w' B F s D dc M mc := by
  refine ⟨h.lo, h.blk.stays hs (hn _ (.inl rfl)), h.data.stays hs fun k hk => hn k (.inr (.inl hk)), ?_⟩
  rcases h.mset with e | ⟨k, hk, hin⟩
  · rw [e]; exact SlRep.nilAt h.more.2.1
  · by_cases hne : s.more = []
    · rw [hne]; exact SlRep.nilAt h.more.2.1
    refine h.more'.keep fun q hq => ?_
    rw [hk] at hq
    cases hq
    exact ⟨⟨hin.1, Nat.lt_of_lt_of_le hin.2.1 hs.size, hin.2.2⟩, hs.block k hin.2.1 (hn k (.inr (.inr ⟨hne, hk⟩)))⟩
theorem SAt.hf_lt (h : SAt w B F s D dc M mc) {k : Nat} (hk : HF F D M s.more k) : B ≤ k ∧ k < w.heap.size := by
  rcases hk with e | e | ⟨e, e2⟩
  · exact ⟨by rw [e]; exact h.lo, by rw [e]; exact h.blk.lt⟩
  · exact h.data.lt k e
  · rcases h.mset with e3 | ⟨q, hq, hin⟩
    · exact absurd e3 e
    · rw [hq] at e2
      cases e2
      exact ⟨hin.1, hin.2.1⟩
theorem SAt.below {B0 : Nat} (h : SAt w B F s D dc M mc) (hs : Stays w w' (HF F D M s.more)) (hB : B0 ≤ B) (hw : B0 ≤ w.heap.size) : Below B0 w w' :=
  ⟨hs.os, hs.tape, hs.output, hs.size, fun k hk => hs.block k (by omega) (fun e => by have := (h.hf_lt e).1; omega)⟩
theorem SAt.rowKeep (_ : SAt w B F s D dc M mc) (j : Nat) (v : Value) {l : List Rng} {M1 : Option Addr} {mc1 : Nat} (hm : SlRep Rng.rep w (rv.InM w B F D) l M1 mc1) : SlRep Rng.rep (w.setCell ⟨F, j, none⟩ v) (rv.InM (w.setCell ⟨F, j, none⟩ v) B F D) l M1 mc1 := by
  have hs := Stays.set w F j v
  exact hm.keep fun k hk => ⟨⟨hk.1, Nat.lt_of_lt_of_le hk.2.1 hs.size, hk.2.2⟩, hs.block k hk.2.1 hk.2.2.1⟩
theorem SAt.putClosed (h : SAt w B F s D dc M mc) (b : Bool) : SAt (w.setCell ⟨F, 1, none⟩ (.bool b)) B F { s with closed := b } D dc M mc :=
  ⟨h.lo, by simpa using h.blk.set 1 (.bool b), h.data.setCell (by exact h.apart) _, h.rowKeep _ _ h.more⟩
theorem SAt.putDone (h : SAt w B F s D dc M mc) (d : Int) : SAt (w.setCell ⟨F, 2, none⟩ (.int .i64 d)) B F { s with done := d } D dc M mc :=
  ⟨h.lo, by simpa using h.blk.set 2 (.int .i64 d), h.data.setCell (by exact h.apart) _, h.rowKeep _ _ h.more⟩
theorem SAt.putMore (h : SAt w B F s D dc M mc) {l : List Rng} {M1 : Option Addr} {mc1 : Nat} (hm : SlRep Rng.rep w (rv.InM w B F D) l M1 mc1) : SAt (w.setCell ⟨F, 3, none⟩ (.slice M1 l.length mc1)) B F { s with more := l } D dc M1 mc1 :=
  ⟨h.lo, by simpa using h.blk.set 3 (.slice M1 l.length mc1), h.data.setCell (by exact h.apart) _, h.rowKeep _ _ hm⟩
theorem SAt.putNext (h : SAt w B F s D dc M mc) (d : Int) : SAt (w.setCell ⟨F, 4, none⟩ (.int .i64 d)) B F { s with next := d } D dc M mc :=
  ⟨h.lo, by simpa using h.blk.set 4 (.int .i64 d), h.data.setCell (by exact h.apart) _, h.rowKeep _ _ h.more⟩
theorem SAt.putAgain (h : SAt w B F s D dc M mc) (d : Int) : SAt (w.setCell ⟨F, 5, none⟩ (.int .i64 d)) B F { s with again := d } D dc M mc :=
  ⟨h.lo, by simpa using h.blk.set 5 (.int .i64 d), h.data.setCell (by exact h.apart) _, h.rowKeep _ _ h.more⟩
theorem SAt.putEdge (h : SAt w B F s D dc M mc) (d : Int) : SAt (w.setCell ⟨F, 6, none⟩ (.int .i64 d)) B F { s with edge := d } D dc M mc :=
  ⟨h.lo, by simpa using h.blk.set 6 (.int .i64 d), h.data.setCell (by exact h.apart) _, h.rowKeep _ _ h.more⟩
theorem SAt.grow {wa w2 : World} (h : SAt w B F s D dc M mc) (hb : Below w.heap.size w wa) {D2 : Option Addr} {n2 dc2 : Nat} {d : List UInt8} (hg : Grew wa w2 D D2) (ho : Own w2 B 5 1 D2 n2 dc2 (d.map rv.u8v)) :
    SAt (w2.setCell ⟨F, 0, none⟩ (.slice D2 n2 dc2)) B F { s with data := d } D2 dc2 M mc ∧ Stays w (w2.setCell ⟨F, 0, none⟩ (.slice D2 n2 dc2)) (HW F D) ∧ Anew w D2 D := by
  have hn : n2 = d.length := by have h := ho.len; rw [List.length_map] at h; omega
  subst hn
  have hs1 : Stays w w2 (fun k => blkOf D = some k) := (Stays.of_below hb (fun k => blkOf D = some k)).trans (Stays.grew hg) (fun k _ hk => hk)
  have hF2 : BlkA w2 F _ _ := h.blk.stays hs1 h.apart
  have hD2F : blkOf D2 ≠ some F := hF2.apart ho u8NeSender
  have hs : Stays w (w2.setCell ⟨F, 0, none⟩ (.slice D2 d.length dc2)) (HW F D) := (hs1.mono fun k _ hk => .inr hk).trans (Stays.set w2 F 0 _) (fun k _ hk => .inl hk)
  have hn : Anew w D2 D := (Anew.of_grew hg).below hb.size
  refine ⟨⟨h.lo, by simpa using hF2.set 0 (.slice D2 d.length dc2), ho.setCell hD2F _, ?_⟩, hs, hn⟩
  rcases h.mset with e | ⟨k, hk, hin⟩
  · simp only; rw [e]; exact SlRep.nilAt h.more.2.1
  · refine h.more'.keep fun q hq => ?_
    rw [hk] at hq
    cases hq
    refine ⟨⟨hin.1, Nat.lt_of_lt_of_le hin.2.1 hs.size, hin.2.2.1, fun e => ?_⟩, hs.block k hin.2.1 (fun e => e.elim hin.2.2.1 hin.2.2.2)⟩
    rcases hn.inf e with e2 | e2
    · exact hin.2.2.2 e2
    · have := hin.2.1; omega
end

set_option maxHeartbeats 400000 in
theorem send_New (window : Int) (w : World) :
    Calls Try.prog 24 #[.int .i64 window] w fun e w' => e = .returned (.pointer (some ⟨w.heap.size, 0, none⟩)) ∧ SAt w' w.heap.size w.heap.size (sd.start window) none 0 none 0 ∧ Below w.heap.size w w' := by
  go_enter Try.func24, Try.ntmps24
  go_wp2
  go_ret
  exact ⟨rfl, ⟨Nat.le_refl _, BlkA.new _ _ _, Own.nil _ _ _ _, ⟨Nat.le_refl _, by decide, .inl rfl⟩⟩, (by repeat (first | (with_reducible exact Below.refl _ _) | (with_reducible assumption) | (with_reducible refine bset ?_ ?_ _) | (with_reducible refine balloc ?_ _) | (with_reducible refine Below.drew ?_) | (with_reducible refine bdrewN ?_ _) | (with_reducible refine bnext ?_ (by with_reducible assumption)) | exact Nat.le_refl _ | (simp; done) | omega | (simp; omega)))⟩

set_option maxHeartbeats 400000 in
theorem send_end (B F : Nat) (s : sd.St) (D : Option Addr) (dc : Nat) (M : Option Addr) (mc : Nat) (w : World) (h : SAt w B F s D dc M mc) (hn : s.data.length ≤ 1048575) :
    Calls Try.prog 80 #[.pointer (some ⟨F, 0, none⟩)] w fun e w' => e = .returned (.int .i64 (sd.endOf s)) ∧ w = w' := by
  have c0 := h.blk.get 0
  have c1 := h.blk.get 1
  simp only [List.getElem?_toArray, List.getElem?_cons_succ, List.getElem?_cons_zero] at c0 c1
  cases hc : s.closed with
  | true =>
    have HE : Hid (sd.endOf s = (s.data.length : Int) + 1) := Lib.hid (by unfold sd.endOf; rw [hc]; rfl)
    rw [hc] at c1
    clear h hc
    go_enter Try.func80, Try.ntmps80
    go_wp2
    go_ret
    exact ⟨by rw [HE.out]; rfl, rfl⟩
  | false =>
    have HE : Hid (sd.endOf s = (s.data.length : Int)) := Lib.hid (by unfold sd.endOf; rw [hc]; simp [sd.fin1])
    rw [hc] at c1
    clear h hc
    go_enter Try.func80, Try.ntmps80
    go_wp2
    go_ret
    exact ⟨by rw [HE.out]; rfl, rfl⟩

theorem sd.total_snoc (l : List Rng) (r : Rng) : sd.total (l ++ [r]) = sd.total l + (r.hi - r.lo) := by
  unfold sd.total
  rw [List.map_append, List.sum_append]
  simp
theorem sd.total_bd {l : List Rng} (h : ∀ r, r ∈ l → 0 ≤ r.hi - r.lo ∧ r.hi - r.lo ≤ 1048576) : 0 ≤ sd.total l ∧ sd.total l ≤ 1048576 * l.length := by
  induction l with
  | nil => exact ⟨Int.le_refl _, by simp [sd.total]⟩
  | cons r l ih =>
    have h1 := h r (by simp)
    have h2 := ih (fun q hq => h q (by simp [hq]))
    unfold sd.total at *
    rw [List.map_cons, List.sum_cons, List.length_cons]
    omega
theorem sd.take_getD {l : List Rng} {k : Nat} (hk : k < l.length) : l.take (k + 1) = l.take k ++ [l.getD k Rng.z] := by
  rw [List.take_add_one, List.getElem?_eq_getElem hk, List.getD_eq_getElem?_getD, List.getElem?_eq_getElem hk]
  rfl
theorem sd.firstFrom_snoc (l : List Rng) (r : Rng) (f : Int) : sd.firstFrom (l ++ [r]) f = if r.lo ≤ sd.firstFrom l f ∧ sd.firstFrom l f < r.hi then r.hi else sd.firstFrom l f := by
  unfold sd.firstFrom
  rw [List.foldl_append]
  rfl
theorem sd.firstFrom_ge : ∀ (l : List Rng) (f : Int), f ≤ sd.firstFrom l f
  | [], f => Int.le_refl _
  | r :: l, f => by
    show f ≤ sd.firstFrom l (if r.lo ≤ f ∧ f < r.hi then r.hi else f)
    have := sd.firstFrom_ge l (if r.lo ≤ f ∧ f < r.hi then r.hi else f)
    split at this <;> split <;> omega
theorem sd.Inv.rng {s : sd.St} (h : sd.Inv s) {r : Rng} (hr : r ∈ s.more) : 0 ≤ r.lo ∧ r.lo < r.hi ∧ r.hi ≤ 1048576 := by
  have h1 := h.canon.mem r hr
  have h2 := h.hi r hr
  have h3 := h.lo
  have h4 := h.end_
  omega

set_option maxHeartbeats 1000000 in
theorem send_Left (B F : Nat) (s : sd.St) (D : Option Addr) (dc : Nat) (M : Option Addr) (mc : Nat) (w : World) (h : SAt w B F s D dc M mc) (hi : sd.Inv s) :
    Calls Try.prog 50 #[.pointer (some ⟨F, 0, none⟩)] w fun e w' => e = .returned (.int .i64 (sd.leftOf s)) ∧ Below w.heap.size w w' := by
  have H := Lib.hid h
  have HI := Lib.hid hi
  have c2 := h.blk.get 2
  have c3 := h.blk.get 3
  simp only [List.getElem?_toArray, List.getElem?_cons_succ, List.getElem?_cons_zero] at c2 c3
  have hF := h.blk.lt
  have HEN := Lib.hid (fun wz (hb : Below w.heap.size w wz) => send_end B F s D dc M mc wz (h.next hb) hi.size)
  have hb0 := hi.lo
  have hb1 := hi.end_
  have hfew := hi.few
  obtain ⟨en, hen⟩ : ∃ en, sd.endOf s = en := ⟨_, rfl⟩
  obtain ⟨dn, hdn⟩ : ∃ dn, s.done = dn := ⟨_, rfl⟩
  rw [hen, hdn] at hb0
  rw [hen] at hb1 HEN
  rw [hdn] at c2
  have HLE : Hid (sd.leftOf s = en - dn - sd.total s.more) := Lib.hid (by unfold sd.leftOf; rw [hen, hdn])
  have e1 : IntKind.i64.wrap (en - dn) = en - dn := IntWalk.i64_in _ (by omega)
  clear h hi hen hdn
  go_enter Try.func50, Try.ntmps50
  go_wp2
  go_quiet ((go_at_call 80; exact Calls.quiet_of_same ((HEN.out _ (by exact (by repeat (first | (with_reducible exact Below.refl _ _) | (with_reducible assumption) | (with_reducible refine bset ?_ ?_ _) | (with_reducible refine balloc ?_ _) | (with_reducible refine Below.drew ?_) | (with_reducible refine bdrewN ?_ _) | (with_reducible refine bnext ?_ (by with_reducible assumption)) | exact Nat.le_refl _ | (simp; done) | omega | (simp; omega))))).mono (fun e w' he => ⟨he.1, he.2.symm⟩))))
  clear e1
  go_wp2
  go_loopw [3, 18] (fun n i wr => ∃ k : Nat, k ≤ s.more.length ∧ i = .int .i64 k ∧ n = .int .i64 (en - dn - sd.total (s.more.take k)) ∧ Below w.heap.size w wr) (fun _ i _ => s.more.length - (intOf i).toNat)
  case atStart => exact ⟨0, by omega, rfl, by simp [sd.total], bdrewN (bself _) _⟩
  case round =>
    obtain ⟨k, hk, rfl, rfl, hB⟩ := hrel
    rename World => wr
    have hbd := sd.total_bd (l := s.more.take k) (fun r hr => by have := HI.out.rng (List.mem_of_mem_take hr); omega)
    have hlk : (s.more.take k).length ≤ k := List.length_take_le _ _
    by_cases hlt : k < s.more.length
    · obtain ⟨g, o, rfl, hg, e0, e1⟩ := Rng.cells_at Rng.z (H.out.moreLt.below hB) hlt
      have hlt' : (k : Int) < (s.more.length : Int) := by omega
      have hgr : g < wr.heap.size := Nat.lt_of_lt_of_le hg hB.size
      have hr := HI.out.rng (r := s.more.getD k Rng.z) (by rw [List.getD_eq_getElem?_getD, List.getElem?_eq_getElem hlt]; exact List.getElem_mem hlt)
      have HSN : Hid (sd.total (s.more.take (k + 1)) = sd.total (s.more.take k) + ((s.more.getD k Rng.z).hi - (s.more.getD k Rng.z).lo)) := Lib.hid (by rw [sd.take_getD hlt, sd.total_snoc])
      generalize s.more.getD k Rng.z = r at *
      generalize sd.total (s.more.take k) = tt at *
      obtain ⟨rl, rh⟩ := r
      dsimp only at hr e0 e1 HSN
      go_wp2
      go_roundw
      case rel => exact ⟨k + 1, by omega, by go_num, by rw [HSN.out]; congr 1; omega, balloc hB _⟩
      case measure => simp [intOf]; omega
    · obtain rfl : k = s.more.length := by omega
      have HT : Hid (s.more.take s.more.length = s.more) := Lib.hid List.take_length
      go_wp2
      go_ret
      exact ⟨by rw [HLE.out]; first | rfl | (rw [HT.out]; rfl), hB⟩
end Go.Proofs.Ytdldfllllgogoaa
namespace Go.Proofs.Ytdldfllllgogoaa
open Go.RowKit
set_option linter.unusedSimpArgs false

def sd.oddB (next : Int) (r : Rng) : Bool := decide (sd.odd next r)
set_option maxHeartbeats 400000 in
theorem send_odd (r : Rng) (next : Int) (Bs F : Nat) (w : World) (hs : w.cell? ⟨Bs, 0, none⟩ = some (.pointer (some ⟨F, 0, none⟩))) (hx : w.cell? ⟨F, 4, none⟩ = some (.int .i64 next)) (h3 : Bs < w.heap.size) (h4 : F < w.heap.size) :
    Calls Try.prog 76 #[.agg #[.int .i64 r.lo, .int .i64 r.hi], .pointer (some ⟨Bs, 0, none⟩)] w fun e w' => e = .returned (.bool (sd.oddB next r)) ∧ Below w.heap.size w w' := by
  obtain ⟨x, y⟩ := r
  by_cases c1 : x < 0
  · have HE : Hid (sd.oddB next (⟨x, y⟩ : Rng) = true) := Lib.hid (by unfold sd.oddB sd.odd; simp [c1])
    go_enter Try.func76, Try.ntmps76
    go_wp2
    go_quiet (fail)
    go_wp2
    go_ret
    exact ⟨by rw [HE.out]; rfl, (by repeat (first | (with_reducible exact Below.refl _ _) | (with_reducible assumption) | (with_reducible refine bset ?_ ?_ _) | (with_reducible refine balloc ?_ _) | (with_reducible refine Below.drew ?_) | (with_reducible refine bdrewN ?_ _) | (with_reducible refine bnext ?_ (by with_reducible assumption)) | exact Nat.le_refl _ | (simp; done) | omega | (simp; omega)))⟩
  by_cases c2 : y ≤ x
  · have HE : Hid (sd.oddB next (⟨x, y⟩ : Rng) = true) := Lib.hid (by unfold sd.oddB sd.odd; simp [c2])
    have k1 : decide (x < 0) = false := by simpa using c1
    have k2 : decide (y ≤ x) = true := by simpa using c2
    go_enter Try.func76, Try.ntmps76
    go_wp2
    go_quiet (fail)
    go_wp2
    go_ret
    exact ⟨by rw [HE.out]; rfl, (by repeat (first | (with_reducible exact Below.refl _ _) | (with_reducible assumption) | (with_reducible refine bset ?_ ?_ _) | (with_reducible refine balloc ?_ _) | (with_reducible refine Below.drew ?_) | (with_reducible refine bdrewN ?_ _) | (with_reducible refine bnext ?_ (by with_reducible assumption)) | exact Nat.le_refl _ | (simp; done) | omega | (simp; omega)))⟩
  have k1 : decide (x < 0) = false := by simpa using c1
  have k2 : decide (y ≤ x) = false := by simpa using c2
  by_cases c3 : next < y
  · have HE : Hid (sd.oddB next (⟨x, y⟩ : Rng) = true) := Lib.hid (by unfold sd.oddB sd.odd; simp [c3])
    have k3 : decide (next < y) = true := by simpa using c3
    go_enter Try.func76, Try.ntmps76
    go_wp2
    go_quiet (fail)
    go_wp2
    go_ret
    exact ⟨by rw [HE.out]; rfl, (by repeat (first | (with_reducible exact Below.refl _ _) | (with_reducible assumption) | (with_reducible refine bset ?_ ?_ _) | (with_reducible refine balloc ?_ _) | (with_reducible refine Below.drew ?_) | (with_reducible refine bdrewN ?_ _) | (with_reducible refine bnext ?_ (by with_reducible assumption)) | exact Nat.le_refl _ | (simp; done) | omega | (simp; omega)))⟩
  · have HE : Hid (sd.oddB next (⟨x, y⟩ : Rng) = false) := Lib.hid (decide_eq_false (fun e => by unfold sd.odd at e; simp only at e; omega))
    have k3 : decide (next < y) = false := by simpa using c3
    go_enter Try.func76, Try.ntmps76
    go_wp2
    go_quiet (fail)
    go_wp2
    go_ret
    exact ⟨by rw [HE.out]; rfl, (by repeat (first | (with_reducible exact Below.refl _ _) | (with_reducible assumption) | (with_reducible refine bset ?_ ?_ _) | (with_reducible refine balloc ?_ _) | (with_reducible refine Below.drew ?_) | (with_reducible refine bdrewN ?_ _) | (with_reducible refine bnext ?_ (by with_reducible assumption)) | exact Nat.le_refl _ | (simp; done) | omega | (simp; omega)))⟩
def sd.anyB (l : List Rng) (p : Int) : Bool := l.any (sd.oddB p)
theorem sd.any_at {l : List Rng} {p : Int} {k : Nat} (hk : k < l.length) (h : sd.oddB p (l.getD k Rng.z) = true) : sd.anyB l p = true := by
  unfold sd.anyB
  rw [List.any_eq_true]
  refine ⟨l.getD k Rng.z, ?_, h⟩
  rw [List.getD_eq_getElem?_getD, List.getElem?_eq_getElem hk]
  exact List.getElem_mem hk
theorem sd.any_no {l : List Rng} {p : Int} (h : ∀ j, j < l.length → sd.oddB p (l.getD j Rng.z) = false) : sd.anyB l p = false := by
  unfold sd.anyB
  rw [List.any_eq_false]
  intro r hr
  obtain ⟨j, hj, rfl⟩ := List.mem_iff_getElem.1 hr
  have h2 := h j hj
  rw [List.getD_eq_getElem?_getD, List.getElem?_eq_getElem hj] at h2
  simpa using h2
set_option maxHeartbeats 1000000 in
theorem send_index (l : List Rng) (next : Int) (A : Option Addr) (c Bs F : Nat) (w : World) (hl : SlRep Rng.rep w (· < w.heap.size) l A c) (hn : l.length ≤ 16) (hf : w.cell? ⟨Bs, 0, none⟩ = some (.pointer (some ⟨F, 0, none⟩))) (hi : w.cell? ⟨F, 4, none⟩ = some (.int .i64 next)) (h3 : Bs < w.heap.size) (h4 : F < w.heap.size) :
    Calls Try.prog 98 #[.slice A l.length c, .func (.func 76) #[] #[.pointer (some ⟨Bs, 0, none⟩)]] w (IdxPost (sd.anyB l next) w) := by
  have HL := Lib.hid hl
  have HFI := Lib.hid (And.intro hf hi)
  have HBL := Lib.hid (And.intro h3 h4)
  clear hl hf hi h3 h4
  go_enter Try.func98, Try.ntmps98
  go_wp2
  go_loopw [5, 8] (fun _ i wr => ∃ k : Nat, k ≤ l.length ∧ i = .int .i64 k ∧ Hid (∀ j, j < k → sd.oddB next (l.getD j Rng.z) = false) ∧ Below w.heap.size w wr) (fun _ i _ => l.length - (intOf i).toNat)
  case atStart => exact ⟨0, by omega, rfl, Lib.hid (fun j hj => by omega), Below.refl _ _⟩
  case round =>
    obtain ⟨k, hk, rfl, HA, hB⟩ := hrel
    rename World => wr
    by_cases hlt : k < l.length
    · obtain ⟨g, o, rfl, _, hc1, hc2⟩ := Rng.cells_at Rng.z (HL.out.below hB) hlt
      have HN : Hid (sd.oddB next (l.getD k Rng.z) = false → ∀ j, j < k + 1 → sd.oddB next (l.getD j Rng.z) = false) := Lib.hid (fun h j hj => by
        rcases Nat.lt_or_ge j k with h' | h'
        · exact HA.out j h'
        · obtain rfl : j = k := by omega
          exact h)
      have HY : Hid (sd.oddB next (l.getD k Rng.z) = true → sd.anyB l next = true) := Lib.hid (sd.any_at hlt)
      have HC := Lib.hid (fun r : Rng => send_odd r next Bs F wr ((hB.cell (p := ⟨Bs, 0, none⟩) HBL.out.1).trans HFI.out.1) ((hB.cell (p := ⟨F, 4, none⟩) HBL.out.2).trans HFI.out.2) (Nat.lt_of_lt_of_le HBL.out.1 hB.size) (Nat.lt_of_lt_of_le HBL.out.2 hB.size))
      clear HL HA
      generalize l.getD k Rng.z = r at *
      cases hr : sd.oddB next r with
      | true =>
        have HT := Lib.hid hr
        have HR := Lib.hid (HY.out hr)
        clear hr
        go_wp2_with (go_at_call 76; ((with_reducible refine (HC.out r).mono ?_); rintro e' w2 ⟨rfl, hb2⟩; rw [HT.out]))
        go_ret
        exact IdxPost.mk k rfl (by omega) (by omega) ⟨fun _ => HR.out, fun _ => by omega⟩ (bnext hB hb2)
      | false =>
        have HT := Lib.hid hr
        have HR := Lib.hid (HN.out hr)
        clear hr
        go_wp2_with (go_at_call 76; ((with_reducible refine (HC.out r).mono ?_); rintro e' w2 ⟨rfl, hb2⟩; rw [HT.out]))
        go_roundw
        case rel => exact ⟨k + 1, by omega, by go_num, Lib.hid HR.out, bnext hB hb2⟩
        case measure => simp [intOf]; omega
    · obtain rfl : k = l.length := by omega
      have HT : Hid (sd.anyB l next = false) := Lib.hid (sd.any_no HA.out)
      clear HA HL
      go_wp2
      go_ret
      exact IdxPost.mk (-1) rfl (by omega) (by omega) ⟨fun h => by omega, fun h => by rw [HT.out] at h; cases h⟩ hB

set_option maxHeartbeats 400000 in
theorem send_contains (l : List Rng) (next : Int) (A : Option Addr) (c Bs F : Nat) (w : World) (hl : SlRep Rng.rep w (· < w.heap.size) l A c) (hn : l.length ≤ 16) (hf : w.cell? ⟨Bs, 0, none⟩ = some (.pointer (some ⟨F, 0, none⟩))) (hi : w.cell? ⟨F, 4, none⟩ = some (.int .i64 next)) (h3 : Bs < w.heap.size) (h4 : F < w.heap.size) :
    Calls Try.prog 77 #[.slice A l.length c, .func (.func 76) #[] #[.pointer (some ⟨Bs, 0, none⟩)]] w fun e w' => e = .returned (.bool (sd.anyB l next)) ∧ Below w.heap.size w w' := by
  have HI := Lib.hid (send_index l next A c Bs F w hl hn hf hi h3 h4)
  clear hl hf hi h3 h4
  generalize sd.anyB l next = b at *
  go_enter Try.func77, Try.ntmps77
  go_wp2_with (go_at_call 98; refine HI.out.mono ?_; rintro e w2 ⟨⟨n, rfl, h1, h2, h3⟩, hb2⟩; have H3 := Lib.hid h3; clear h3)
  go_ret
  refine ⟨ret_bool ?_, hb2⟩
  cases b with
  | true => exact decide_eq_true (H3.out.2 rfl)
  | false => exact decide_eq_false (fun h => by have := H3.out.1 h; cases this)

set_option maxRecDepth 100000 in
set_option maxHeartbeats 2000000 in
theorem concat2_rng (l1 l2 : List Rng) (A1 A2 : Option Addr) (c1 c2 B : Nat) (w : World) (hB : B < w.heap.size) (hx1 : w.cell? ⟨B, 0, none⟩ = some (.slice A1 l1.length c1)) (hx2 : w.cell? ⟨B, 1, none⟩ = some (.slice A2 l2.length c2))
    (h1 : SlRep Rng.rep w (· < w.heap.size) l1 A1 c1) (h2 : SlRep Rng.rep w (· < w.heap.size) l2 A2 c2) (hn : l1.length + l2.length ≤ 1048576) :
    Calls Try.prog 78 #[.slice (some ⟨B, 0, none⟩) 2 2] w fun e w' => ∃ A' c', e = .returned (.slice A' (l1 ++ l2).length c') ∧ Own w' w.heap.size 78 2 A' (l1 ++ l2).length c' ((l1 ++ l2).flatMap Rng.cells) ∧ Below w.heap.size w w' := by
  have H1 := Lib.hid h1
  have H2 := Lib.hid h2
  have CL : Hid (∀ (l : List Rng) (A : Option Addr) (c : Nat) (W : World), SlRep Rng.rep w (· < w.heap.size) l A c → Below w.heap.size w W → Cells W A (l.flatMap Rng.cells)) := Lib.hid fun l A c W hl hW => (hl.next hW).cells_flat Rng.cells rfl (fun a cs h => Rng.rep_iff.1 h) (fun _ => rfl) (by decide)
  clear h1 h2
  go_enter Try.func78, Try.ntmps78
  go_wp2
  go_loop [3, 11] (fun s i => (i = .int .i64 0 ∧ s = .int .i64 0) ∨ (i = .int .i64 1 ∧ s = .int .i64 l1.length) ∨ (i = .int .i64 2 ∧ s = .int .i64 ((l1.length : Int) + l2.length))) (fun _ i => 2 - (intOf i).toNat)
  case atStart => exact .inl ⟨rfl, rfl⟩
  case round =>
    rcases hrel with ⟨rfl, rfl⟩ | ⟨rfl, rfl⟩ | ⟨rfl, rfl⟩
    · go_wp2
      go_round
      case rel => exact .inr (.inl ⟨rfl, rfl⟩)
      case measure => simp [intOf]
    · go_wp2
      go_round
      case rel => exact .inr (.inr ⟨rfl, rfl⟩)
      case measure => simp [intOf]
    · have HS : Hid (((l1.length : Int) + (l2.length : Int)) = ((l1.length + l2.length : Nat) : Int)) := Lib.hid (by omega)
      have HG := Lib.hid (grow_rng (l1.length + l2.length) w hn)
      go_wp2_with (go_at_call 99; go_loud (rw [HS.out]; refine HG.out.mono ?_; rintro e w1 ⟨A', c', rfl, ho, hb1⟩))
      have HO := Lib.hid ho
      clear ho HG HS
      have h1B : w1.cell? ⟨B, 0, none⟩ = some (.slice A1 l1.length c1) := (hb1.cell (p := ⟨B, 0, none⟩) hB).trans hx1
      have h2B : w1.cell? ⟨B, 1, none⟩ = some (.slice A2 l2.length c2) := (hb1.cell (p := ⟨B, 1, none⟩) hB).trans hx2
      have hsz := hb1.size
      have HX1 := Lib.hid h1B
      have HX2 := Lib.hid h2B
      clear h1B h2B hx1 hx2
      go_wp2
      go_loopw [6, 27] (fun out i wr => ∃ (k : Nat) (l : List Rng) (A' : Option Addr) (c' : Nat), k ≤ 2 ∧ i = .int .i64 k ∧ out = .slice A' l.length c' ∧ Hid (l = if k = 0 then [] else if k = 1 then l1 else l1 ++ l2) ∧ Hid (Own wr w.heap.size 78 2 A' l.length c' (l.flatMap Rng.cells)) ∧ Below w.heap.size w wr ∧ Below B.succ w1 wr) (fun _ i _ => 2 - (intOf i).toNat)
      case atStart => exact ⟨0, [], A', c', by omega, rfl, rfl, Lib.hid rfl, HO, hb1, Below.refl _ _⟩
      case round =>
        obtain ⟨k, l, A2', c2', hk, rfl, rfl, HL, HO2, hB2, hB3⟩ := hrel
        rename World => wr
        have hszr := hB2.size
        have h1B : wr.cell? ⟨B, 0, none⟩ = some (.slice A1 l1.length c1) := (hB3.cell (p := ⟨B, 0, none⟩) (Nat.lt_succ_self _)).trans HX1.out
        have h2B : wr.cell? ⟨B, 1, none⟩ = some (.slice A2 l2.length c2) := (hB3.cell (p := ⟨B, 1, none⟩) (Nat.lt_succ_self _)).trans HX2.out
        have hBr : B < wr.heap.size := by omega
        by_cases k0 : k = 0
        · subst k0
          obtain rfl : l = [] := HL.out
          go_wp2_with (at_builtin; refine wp_app _ rfl _ _ _ rfl elemRng w.heap.size A2' _ c2' _ rfl HO2.out A1 l1.length c1 (l1.flatMap Rng.cells) rfl (flatMap_len Rng.cells 2 (fun _ => rfl) l1) (CL.out _ _ _ _ H1.out hB2) (Rng.one l1) (by simp; omega) (by unfold maxLen; simp; omega) (by omega) ?_; intro A3 c3 w3 hO3 hg3; have HO3 := Lib.hid hO3; clear hO3)
          go_roundw
          case rel => exact ⟨1, l1, A3, c3, by omega, rfl, by simp, Lib.hid rfl, Lib.hid (by simpa using HO3.out), Grew.step hB2 hg3 (fun x hx => (HO2.out.lt x hx).1), hB3.trans (hg3.below (by omega) (fun x hx => by have := (HO2.out.lt x hx).1; omega))⟩
          case measure => simp [intOf]
        · by_cases k1 : k = 1
          · subst k1
            obtain rfl : l = l1 := HL.out
            go_wp2_with (at_builtin; refine wp_app _ rfl _ _ _ rfl elemRng w.heap.size A2' _ c2' _ rfl HO2.out A2 l2.length c2 (l2.flatMap Rng.cells) rfl (flatMap_len Rng.cells 2 (fun _ => rfl) l2) (CL.out _ _ _ _ H2.out hB2) (Rng.one l2) (by omega) (by unfold maxLen; omega) (by omega) ?_; intro A3 c3 w3 hO3 hg3; have HO3 := Lib.hid hO3; clear hO3)
            go_roundw
            case rel => exact ⟨2, l ++ l2, A3, c3, by omega, rfl, by rw [List.length_append], Lib.hid rfl, Lib.hid (by rw [List.length_append, List.flatMap_append]; exact HO3.out), Grew.step hB2 hg3 (fun x hx => (HO2.out.lt x hx).1), hB3.trans (hg3.below (by omega) (fun x hx => by have := (HO2.out.lt x hx).1; omega))⟩
            case measure => simp [intOf]
          · obtain rfl : k = 2 := by omega
            obtain rfl : l = l1 ++ l2 := HL.out
            clear HL
            go_wp2
            go_ret
            exact ⟨A2', c2', rfl, HO2.out, hB2⟩
end Go.Proofs.Ytdldfllllgogoaa
namespace Go.Proofs.Ytdldfllllgogoaa
section
variable {P : Program} {ops : Array Oper} {Q : Exit → Act → World → Prop} {md : Region.Mode} {S : World → Prop} {late : List Nat}

/-- none of the late operations has come up -/
def early (late : List Nat) (listed : Array Bool) : Bool := late.all fun k => !listed.getD k true
/-- Whatever order is picked from here on, and S holds behind every operation, as long as no late one has come up. -/
def wpAnyT (P : Program) (md : Region.Mode) (ops : Array Oper) (Q : Exit → Act → World → Prop) (S : World → Prop) (late : List Nat) : Nat → Array Bool → Act → World → Prop
  | 0, listed, a, w => Region.ready md ops listed = [] ∧ Q .normal a w
  | fuel + 1, listed, a, w =>
    (Region.ready md ops listed = [] → Q .normal a w) ∧
    ∀ i ∈ Region.ready md ops listed, wpOp P ops Q i (fun a' w' => (early late (listed.setIfInBounds i true) = true → S w') ∧ wpAnyT P md ops Q S late fuel (listed.setIfInBounds i true) a' w') a w

theorem wpAny_of_tail : ∀ (fuel : Nat) (listed : Array Bool) (a : Act) (w : World), wpAnyT P md ops Q S late fuel listed a w → wpAny P md ops Q fuel listed a w
  | 0, _, _, _, h => h
  | fuel + 1, _, _, _, h => ⟨h.1, fun i hi => wpOp_mono (fun a' w' h' => wpAny_of_tail fuel _ a' w' h'.2) (h.2 i hi)⟩

/-- the operations B wait for i, one through the other; the late ones are among them -/
def Behind (md : Region.Mode) (ops : Array Oper) (i : Nat) (B : List Nat) (listed : Array Bool) : Prop :=
  ∀ k, k ∈ B → listed.getD k true = false ∧ ∃ ok, ops[k]? = some ok ∧ ∃ e ∈ ok.after, Region.binds md e = true ∧ (e.on = i ∨ e.on ∈ B)
def behindB (md : Region.Mode) (ops : Array Oper) (i : Nat) (B : List Nat) (listed : Array Bool) : Bool :=
  B.all fun k => !listed.getD k true && match ops[k]? with
    | none => false
    | some ok => ok.after.any fun e => Region.binds md e && (e.on == i || B.contains e.on)
theorem behind_of {i : Nat} {B : List Nat} {listed : Array Bool} (h : behindB md ops i B listed = true) : Behind md ops i B listed := by
  intro k hk
  have h1 := List.all_eq_true.1 h k hk
  simp only [Bool.and_eq_true, Bool.not_eq_true'] at h1
  refine ⟨h1.1, ?_⟩
  have h2 := h1.2
  cases ho : ops[k]? with
  | none => rw [ho] at h2; cases h2
  | some ok =>
    rw [ho] at h2
    simp only at h2
    obtain ⟨e, he, hb⟩ := Array.any_eq_true'.1 h2
    simp only [Bool.and_eq_true, Bool.or_eq_true, beq_iff_eq, List.contains_iff_mem] at hb
    exact ⟨ok, rfl, e, he, hb.1, hb.2⟩

theorem getD_true_of {listed : Array Bool} {i : Nat} (h : listed.getD i true = false) : listed.getD i false = false := by
  rcases Nat.lt_or_ge i listed.size with h' | h'
  · simp [h'] at h ⊢; exact h
  · simp [Array.getElem?_eq_none h'] at h ⊢

theorem wpAnyT_first {i : Nat} {oi : Oper} {v : Value} {B : List Nat} (hi : ops[i]? = some oi) (hsel : ∀ (j : Nat) (o : Oper) cs b, ops[j]? = some o → o.op ≠ .select cs b)
    (hQ : ∀ c a w, Q (.panic c) (a.put oi.dst v) w → Q (.panic c) a w) (hlB : ∀ k, k ∈ late → k ∈ B) (hiB : i ∉ B) :
    ∀ (fuel : Nat) (listed : Array Bool) (a : Act) (w : World),
      (∀ j oj, ops[j]? = some oj → j ≠ i → listed.getD j true = false → (∀ e ∈ oj.after, Region.binds md e = true → e.on ≠ i) → oi.apart ops oj = true) →
      i ∈ Region.ready md ops listed → Behind md ops i B listed → YieldsIf P ops S oi v a → S w →
      wpAnyT P md ops Q S late fuel (listed.setIfInBounds i true) (a.put oi.dst v) w → wpAnyT P md ops Q S late (fuel + 1) listed a w := by
  intro fuel
  induction fuel with
  | zero =>
    intro listed a w _ hr hB hy hS H
    refine ⟨fun h => (by rw [h] at hr; cases hr), fun j hj => ?_⟩
    by_cases hji : j = i
    · subst hji; exact hy.wpOp hi hS ⟨fun _ => hS, H⟩
    · have := ready_mono hj hji
      rw [H.1] at this
      cases this
  | succ fuel ih =>
    intro listed a w hfree hr hB hy hS H
    refine ⟨fun h => (by rw [h] at hr; cases hr), fun j hj => ?_⟩
    by_cases hji : j = i
    · subst hji; exact hy.wpOp hi hS ⟨fun _ => hS, H⟩
    · have h1 := H.2 j (ready_mono hj hji)
      obtain ⟨hjun, oj, hoj, hall⟩ := mem_ready.1 hj
      have hiun := (mem_ready.1 hr).1
      have hnot : ∀ e ∈ oj.after, Region.binds md e = true → e.on ≠ i := fun e he hb heq => by
        have h1 := hall e he hb
        rw [heq, getD_true_of hiun] at h1
        cases h1
      have hjB : j ∉ B := fun hm => by
        obtain ⟨_, ok, hok, e, he, hb, hon⟩ := hB j hm
        rw [hoj] at hok
        cases hok
        rcases hon with hon | hon
        · exact hnot e he hb hon
        · have h1 := hall e he hb
          rw [getD_true_of (hB e.on hon).1] at h1
          cases h1
      have hB' : Behind md ops i B (listed.setIfInBounds j true) := fun k hk => by
        obtain ⟨h0, h2⟩ := hB k hk
        refine ⟨?_, h2⟩
        rw [getD_set_ne true (by intro e; subst e; exact hjB hk)]
        exact h0
      have hearly : early late ((listed.setIfInBounds i true).setIfInBounds j true) = true := by
        unfold early
        rw [List.all_eq_true]
        intro k hk
        have hkB := hlB k hk
        rw [getD_set_ne true (by intro e; subst e; exact hjB hkB), getD_set_ne true (by intro e; subst e; exact hiB hkB), (hB k hkB).1]
        rfl
      have h2 := wpOp_putIf hoj (hfree j oj hoj hji hjun hnot) (fun cs b => hsel i oi cs b hi) (fun cs b => hsel j oj cs b hoj) hQ hy h1
      have hfree' : ∀ k ok, ops[k]? = some ok → k ≠ i → (listed.setIfInBounds j true).getD k true = false →
          (∀ e ∈ ok.after, Region.binds md e = true → e.on ≠ i) → oi.apart ops ok = true := fun k ok hk hki hun hno => by
        refine hfree k ok hk hki ?_ hno
        by_cases hjk : j = k
        · subst hjk; exact hjun
        · rw [getD_set_ne true hjk] at hun; exact hun
      refine wpOp_mono (fun a' w' h3 => ⟨fun _ => h3.2.1 hearly, ih (listed.setIfInBounds j true) a' w' hfree' (ready_mono hr (Ne.symm hji)) hB' h3.1 (h3.2.1 hearly) ?_⟩) h2
      rw [Array.setIfInBounds_comm _ _ hji]
      exact h3.2.2

/-- Number i is taken first: B: operations that wait for i, one through the other, the late ones among them. -/
theorem wpAnyT_take {i : Nat} {oi : Oper} {v : Value} (B : List Nat) {fuel : Nat} {listed : Array Bool} {a : Act} {w : World} (hi : ops[i]? = some oi)
    (hs : Region.noSelect ops = true) (hf : Region.free md ops listed i = true) (hr : (Region.ready md ops listed).contains i = true)
    (hB : (behindB md ops i B listed && late.all (fun k => B.contains k) && !B.contains i) = true)
    (hQ : ∀ c a w, Q (.panic c) (a.put oi.dst v) w → Q (.panic c) a w) (hy : YieldsIf P ops S oi v a) (hS : S w)
    (h : wpAnyT P md ops Q S late fuel (listed.setIfInBounds i true) (a.put oi.dst v) w) : wpAnyT P md ops Q S late (fuel + 1) listed a w := by
  simp only [Bool.and_eq_true, Bool.not_eq_true'] at hB
  refine wpAnyT_first hi (Region.noSelect_spec hs) hQ (B := B) (fun k hk => ?_) (fun hm => ?_) fuel listed a w (Region.free_spec hi hf) (by simpa using hr) (behind_of hB.1.1) hy hS h
  · have := List.all_eq_true.1 hB.1.2 k hk
    simpa using this
  · have := hB.2
    rw [List.contains_iff_mem.2 hm] at this
    cases this
/-- the operations that wait for i, one through the other -/
def waiting (md : Region.Mode) (ops : Array Oper) (i : Nat) : List Nat :=
  (List.range ops.size).foldl (fun B k => if (match ops[k]? with | none => false | some ok => ok.after.any fun e => Region.binds md e && (e.on == i || B.contains e.on)) then B ++ [k] else B) []
/-- What yields in whatever world is taken first, whoever waits for it: S is asked of nobody. -/
theorem wpAnyT_pure {i : Nat} {oi : Oper} {v : Value} {fuel : Nat} {listed : Array Bool} {a : Act} {w : World} (hi : ops[i]? = some oi)
    (hs : Region.noSelect ops = true) (hf : Region.free md ops listed i = true) (hr : (Region.ready md ops listed).contains i = true)
    (hQ : ∀ c a w, Q (.panic c) (a.put oi.dst v) w → Q (.panic c) a w) (hy : Yields P ops oi v a) (hS : early late (listed.setIfInBounds i true) = true → S w)
    (h : wpAnyT P md ops Q S late fuel (listed.setIfInBounds i true) (a.put oi.dst v) w) (hE : ¬ i ∈ late) : wpAnyT P md ops Q S late (fuel + 1) listed a w := by
  have hsel := Region.noSelect_spec hs
  have key : ∀ (fuel : Nat) (listed : Array Bool) (a : Act) (w : World),
      (∀ j oj, ops[j]? = some oj → j ≠ i → listed.getD j true = false → (∀ e ∈ oj.after, Region.binds md e = true → e.on ≠ i) → oi.apart ops oj = true) →
      i ∈ Region.ready md ops listed → Yields P ops oi v a → (early late (listed.setIfInBounds i true) = true → S w) →
      wpAnyT P md ops Q S late fuel (listed.setIfInBounds i true) (a.put oi.dst v) w → wpAnyT P md ops Q S late (fuel + 1) listed a w := by
    intro fuel
    induction fuel with
    | zero =>
      intro listed a w _ hr hy hS H
      refine ⟨fun h => (by rw [h] at hr; cases hr), fun j hj => ?_⟩
      by_cases hji : j = i
      · subst hji; exact hy.yieldsIf.wpOp (S := fun _ => True) hi trivial ⟨hS, H⟩
      · have := ready_mono hj hji
        rw [H.1] at this
        cases this
    | succ fuel ih =>
      intro listed a w hfree hr hy hS H
      refine ⟨fun h => (by rw [h] at hr; cases hr), fun j hj => ?_⟩
      by_cases hji : j = i
      · subst hji; exact hy.yieldsIf.wpOp (S := fun _ => True) hi trivial ⟨hS, H⟩
      · have h1 := H.2 j (ready_mono hj hji)
        obtain ⟨hjun, oj, hoj, hall⟩ := mem_ready.1 hj
        have hiun := (mem_ready.1 hr).1
        have hnot : ∀ e ∈ oj.after, Region.binds md e = true → e.on ≠ i := fun e he hb heq => by
          have h1 := hall e he hb
          rw [heq, getD_true_of hiun] at h1
          cases h1
        have h2 := wpOp_putIf (S := fun _ => True) hoj (hfree j oj hoj hji hjun hnot) (fun cs b => hsel i oi cs b hi) (fun cs b => hsel j oj cs b hoj) hQ hy.yieldsIf h1
        have hfree' : ∀ k ok, ops[k]? = some ok → k ≠ i → (listed.setIfInBounds j true).getD k true = false →
            (∀ e ∈ ok.after, Region.binds md e = true → e.on ≠ i) → oi.apart ops ok = true := fun k ok hk hki hun hno => by
          refine hfree k ok hk hki ?_ hno
          by_cases hjk : j = k
          · subst hjk; exact hjun
          · rw [getD_set_ne true hjk] at hun; exact hun
        have hear : early late ((listed.setIfInBounds i true).setIfInBounds j true) = early late (listed.setIfInBounds j true) := by
          unfold early
          rw [Bool.eq_iff_iff, List.all_eq_true, List.all_eq_true]
          have one : ∀ k, k ∈ late → ((listed.setIfInBounds i true).setIfInBounds j true).getD k true = (listed.setIfInBounds j true).getD k true := fun k hk => by
            rw [Array.setIfInBounds_comm _ _ (Ne.symm hji), getD_set_ne true (by intro e; subst e; exact hE hk)]
          exact ⟨fun h k hk => by rw [← one k hk]; exact h k hk, fun h k hk => by rw [one k hk]; exact h k hk⟩
        refine wpOp_mono (fun a' w' h3 => ⟨fun he => h3.2.1 (hear.trans he), ih (listed.setIfInBounds j true) a' w' hfree' (ready_mono hr (Ne.symm hji)) ?_ (fun he => h3.2.1 (by rw [Array.setIfInBounds_comm _ _ hji] at *; exact he)) ?_⟩) h2
        · rcases h3.1 with ⟨h4, h5⟩ | ⟨h4, h5⟩
          · exact .inl ⟨h4, fun w => h5 w trivial⟩
          · exact .inr ⟨h4, h5⟩
        · rw [Array.setIfInBounds_comm _ _ hji]
          exact h3.2.2
  exact key fuel listed a w (Region.free_spec hi hf) (by simpa using hr) hy hS h
/-- One operation alone may come up. -/
theorem wpAnyT_next {i : Nat} {o : Oper} {fuel : Nat} {listed : Array Bool} {a : Act} {w : World} (hr : Region.ready md ops listed = [i]) (ho : ops[i]? = some o)
    (h : ∀ K : Act → World → Prop, Shut (∀ a w, (early late (listed.setIfInBounds i true) = true → S w) → wpAnyT P md ops Q S late fuel (listed.setIfInBounds i true) a w → K a w) → if Region.wanted o (yielded ops a.tmps) = true then Oper.wp P o a w K Q else K (a.put o.dst undef) w) :
    wpAnyT P md ops Q S late (fuel + 1) listed a w := by
  refine ⟨fun h0 => (by rw [hr] at h0; cases h0), fun j hj => ?_⟩
  rw [hr, List.mem_singleton] at hj
  subst hj
  exact wpOp_step ho (fun K' hK => h K' (fun a w hS hW => hK a w ⟨hS, hW⟩))
theorem wpAnyT_done {listed : Array Bool} {a : Act} {w : World} (hr : Region.ready md ops listed = []) (h : Q .normal a w) : ∀ fuel, wpAnyT P md ops Q S late fuel listed a w
  | 0 => ⟨hr, h⟩
  | _ + 1 => ⟨fun _ => h, by rw [hr]; simp⟩
theorem wp_region_tail (late : List Nat) (S : World → Prop) {id : Nat} {a : Act} {w : World} (hm : P.follows .mixedOrders = true) (hS : S w.drew)
    (h : S w.drew → wpAnyT P .any ops Q S late ops.size (Array.replicate ops.size false) a w.drew) : (Code.region id ops true).wp P Q a w :=
  wp_region_any hm (wpAny_of_tail _ _ _ _ (h hS))
end
end Go.Proofs.Ytdldfllllgogoaa
namespace Go.Proofs.Ytdldfllllgogoaa
open Go.RowKit
set_option linter.unusedSimpArgs false

set_option maxHeartbeats 1000000 in
theorem send_first (B F : Nat) (s : sd.St) (D : Option Addr) (dc : Nat) (M : Option Addr) (mc : Nat) (f t : Int) (w : World) (h : SAt w B F s D dc M mc) (hi : sd.Inv s) (hf : 0 ≤ f ∧ f ≤ s.next) (ht : 0 ≤ t ∧ t ≤ 1048576) :
    Calls Try.prog 79 #[.pointer (some ⟨F, 0, none⟩), .int .i64 f, .int .i64 t] w fun e w' => e = .returned (.int .i64 (sd.first s f t)) ∧ Below w.heap.size w w' := by
  have H := Lib.hid h
  have HI := Lib.hid hi
  have c2 := h.blk.get 2
  have c3 := h.blk.get 3
  simp only [List.getElem?_toArray, List.getElem?_cons_succ, List.getElem?_cons_zero] at c2 c3
  have hF := h.blk.lt
  have hfew := hi.few
  have hlo := hi.lo
  have hen := hi.end_
  obtain ⟨f0, hf0⟩ : ∃ f0, f0 = max f s.done := ⟨_, rfl⟩
  have hfb : 0 ≤ f0 ∧ f0 ≤ s.next := by omega
  have HRES : Hid (sd.first s f t = min (sd.firstFrom s.more f0) t) := Lib.hid (by unfold sd.first; rw [hf0])
  have HF0 := Lib.hid hf0
  have HFL := Lib.hid (fun k => sd.firstFrom_le (l := s.more.take k) (f := f0) (t := s.next) hfb.2 (fun r hr => hi.hi r (List.mem_of_mem_take hr)))
  obtain ⟨nx, hnx⟩ : ∃ nx, s.next = nx := ⟨_, rfl⟩
  rw [hnx] at HFL hlo hfb hf
  have hnxb : nx ≤ 1048576 := by omega
  clear h hi hf0 hnx hlo hen
  go_enter Try.func79, Try.ntmps79
  go_upto_region 1 with (fail)
  go_cut [1] (fun s1 wx => s1 = .int .i64 f0 ∧ w = wx)
  case first =>
    go_wp2
    all_goals
      go_meet
      exact ⟨by rw [HF0.out]; congr 1; omega, rfl⟩
  case rest =>
    obtain ⟨rfl, rfl⟩ := hcut
    go_wp2
    go_loopw [1, 20] (fun n i wr => ∃ k : Nat, k ≤ s.more.length ∧ i = .int .i64 k ∧ n = .int .i64 (sd.firstFrom (s.more.take k) f0) ∧ Below w.heap.size w wr) (fun _ i _ => s.more.length - (intOf i).toNat)
    case atStart => exact ⟨0, by omega, rfl, rfl, bself _⟩
    case round =>
      obtain ⟨k, hk, rfl, rfl, hB⟩ := hrel
      rename World => wr
      have hbd := HFL.out k
      have hge := sd.firstFrom_ge (s.more.take k) f0
      by_cases hlt : k < s.more.length
      · obtain ⟨g, o, rfl, hg, e0, e1⟩ := Rng.cells_at Rng.z (H.out.moreLt.below hB) hlt
        have hlt' : (k : Int) < (s.more.length : Int) := by omega
        have hgr : g < wr.heap.size := Nat.lt_of_lt_of_le hg hB.size
        have HSN : Hid (sd.firstFrom (s.more.take (k + 1)) f0 = if (s.more.getD k Rng.z).lo ≤ sd.firstFrom (s.more.take k) f0 ∧ sd.firstFrom (s.more.take k) f0 < (s.more.getD k Rng.z).hi then (s.more.getD k Rng.z).hi else sd.firstFrom (s.more.take k) f0) := Lib.hid (by rw [sd.take_getD hlt, sd.firstFrom_snoc])
        generalize s.more.getD k Rng.z = r at *
        generalize sd.firstFrom (s.more.take k) f0 = tt at *
        obtain ⟨rl, rh⟩ := r
        dsimp only at e0 e1 HSN
        by_cases k1 : rl ≤ tt
        · by_cases k2 : tt < rh
          · go_wp2
            go_roundw
            case rel => exact ⟨k + 1, by omega, by go_num, by rw [HSN.out, if_pos ⟨k1, k2⟩], balloc hB _⟩
            case measure => simp [intOf]; omega
          · go_wp2
            go_roundw
            case rel => exact ⟨k + 1, by omega, by go_num, by rw [HSN.out, if_neg (fun e => k2 e.2)], balloc hB _⟩
            case measure => simp [intOf]; omega
        · have k1' : decide (rl ≤ tt) = false := by simpa using k1
          go_wp2
          go_roundw
          case rel => exact ⟨k + 1, by omega, by go_num, by rw [HSN.out, if_neg (fun e => k1 e.1)], balloc hB _⟩
          case measure => simp [intOf]; omega
      · obtain rfl : k = s.more.length := by omega
        have HT : Hid (s.more.take s.more.length = s.more) := Lib.hid List.take_length
        rw [HT.out] at hbd hge
        go_wp2
        all_goals
          go_ret
          refine ⟨?_, hB⟩
          rw [HRES.out]
          show Ending.returned (.int .i64 _) = Ending.returned (.int .i64 _)
          congr 2
          omega

set_option maxHeartbeats 400000 in
theorem send_after (p : Sent) (G : Option Addr) (gc : Nat) (F : Nat) (w : World) (hl : 0 ≤ p.from_ ∧ p.from_ ≤ 1048576) (hd : p.data.length ≤ 64) :
    Calls Try.prog 82 #[.pointer (some ⟨F, 0, none⟩), .agg #[.int .i64 p.code, .int .i64 p.from_, .slice G p.data.length gc, .bool p.fin, .bool p.again, .bool p.idle, .int .i64 p.left]] w fun e w' => e = .returned (.int .i64 (sd.after p)) ∧ Below w.heap.size w w' := by
  obtain ⟨pc, pf, pd, pn, pa, pi, pl⟩ := p
  dsimp only at hl hd ⊢
  cases pn with
  | true =>
    have HE : Hid (sd.after ⟨pc, pf, pd, true, pa, pi, pl⟩ = pf + (pd.length : Int) + 1) := Lib.hid rfl
    go_enter Try.func82, Try.ntmps82
    go_wp2
    go_ret
    exact ⟨by rw [HE.out]; rfl, (by repeat (first | (with_reducible exact Below.refl _ _) | (with_reducible assumption) | (with_reducible refine bset ?_ ?_ _) | (with_reducible refine balloc ?_ _) | (with_reducible refine Below.drew ?_) | (with_reducible refine bdrewN ?_ _) | (with_reducible refine bnext ?_ (by with_reducible assumption)) | exact Nat.le_refl _ | (simp; done) | omega | (simp; omega)))⟩
  | false =>
    have HE : Hid (sd.after ⟨pc, pf, pd, false, pa, pi, pl⟩ = pf + (pd.length : Int)) := Lib.hid (by unfold sd.after; simp [sd.fin1])
    go_enter Try.func82, Try.ntmps82
    go_wp2
    go_ret
    exact ⟨by rw [HE.out]; rfl, (by repeat (first | (with_reducible exact Below.refl _ _) | (with_reducible assumption) | (with_reducible refine bset ?_ ?_ _) | (with_reducible refine balloc ?_ _) | (with_reducible refine Below.drew ?_) | (with_reducible refine bdrewN ?_ _) | (with_reducible refine bnext ?_ (by with_reducible assumption)) | exact Nat.le_refl _ | (simp; done) | omega | (simp; omega)))⟩

def SndRes (w : World) (B F : Nat) (l : List Rng) (r : Int × sd.St) (D M : Option Addr) (e : Ending) (w' : World) : Prop :=
  ∃ D1 dc1 M1 mc1, e = .returned (.int .i64 r.1) ∧ SAt w' B F r.2 D1 dc1 M1 mc1 ∧ Stays w w' (HF F D M l) ∧ ∀ k, HF F D1 M1 r.2.more k → HF F D M l k ∨ w.heap.size ≤ k
theorem SndRes.no {w w' : World} {B F : Nat} {s : sd.St} {D M : Option Addr} {dc mc : Nat} {r : Int × sd.St} {c : Int} (h : SAt w B F s D dc M mc) (hr : r = (c, s)) (hb : Below w.heap.size w w') : SndRes w B F s.more r D M (.returned (.int .i64 c)) w' := by
  subst hr
  exact ⟨D, dc, M, mc, rfl, h.next hb, Stays.of_below hb _, fun k hk => .inl hk⟩

set_option maxHeartbeats 1000000 in
theorem send_submit (B F : Nat) (s : sd.St) (D : Option Addr) (dc : Nat) (M : Option Addr) (mc : Nat) (b : List UInt8) (G : Option Addr) (gc : Nat) (S : Nat → Prop) (w : World) (h : SAt w B F s D dc M mc) (hi : sd.Inv s) (hG : SlRep Rep.u8 w S b G gc) (hb : b.length ≤ 140737488351232) :
    Calls Try.prog 46 #[.pointer (some ⟨F, 0, none⟩), .slice G b.length gc] w (SndRes w B F s.more (sd.submit s b) D M) := by
  have H := Lib.hid h
  have HG := Lib.hid hG
  have c0 := h.blk.get 0
  have c1 := h.blk.get 1
  have f0 := h.blk.frozen 0
  simp only [List.getElem?_toArray, List.getElem?_cons_succ, List.getElem?_cons_zero] at c0 c1
  have hF := h.blk.lt
  have hsz := hi.size
  have hlo := h.lo
  have KEY := Lib.hid (fun (c : Int) (hc : sd.submit s b = (c, s)) => (SndRes.no h hc (bself w) : SndRes w B F s.more (sd.submit s b) D M (.returned (.int .i64 c)) w))
  clear h hG hi
  cases hc : s.closed with
  | true =>
    have HR : Hid (sd.submit s b = (10, s)) := Lib.hid (by unfold sd.submit; rw [if_pos hc])
    rw [hc] at c1
    clear hc
    go_enter Try.func46, Try.ntmps46
    go_wp2
    go_ret
    exact KEY.out _ HR.out
  | false =>
    rw [hc] at c1
    by_cases k1 : 4096 < b.length
    · have HR : Hid (sd.submit s b = (1, s)) := Lib.hid (by unfold sd.submit; rw [if_neg (by rw [hc]; decide), if_pos k1])
      have k1' : (4096 : Int) < (b.length : Int) := by omega
      clear hc
      go_enter Try.func46, Try.ntmps46
      go_wp2
      go_ret
      exact KEY.out _ HR.out
    have k1' : ¬ (4096 : Int) < (b.length : Int) := by omega
    by_cases k2 : 1048576 ≤ s.data.length + b.length
    · have HR : Hid (sd.submit s b = (9, s)) := Lib.hid (by unfold sd.submit; rw [if_neg (by rw [hc]; decide), if_neg k1, if_pos k2])
      have k2' : (s.data.length : Int) + (b.length : Int) ≥ 1048576 := by omega
      clear hc
      go_enter Try.func46, Try.ntmps46
      go_wp2
      go_ret
      exact KEY.out _ HR.out
    have k2' : ¬ (s.data.length : Int) + (b.length : Int) ≥ 1048576 := by omega
    have HR : Hid (sd.submit s b = (0, { s with data := s.data ++ b })) := Lib.hid (by unfold sd.submit; rw [if_neg (by rw [hc]; decide), if_neg k1, if_neg k2])
    have hap := H.out.apart
    have HCE : Hid (Cells w G (b.map fun x => Value.int .u8 (x.toNat : Int))) := Lib.hid (SlRep.cells_u8 HG.out)
    clear hc
    go_enter Try.func46, Try.ntmps46
    go_wp2_with (first
      | (at_builtin; refine wp_app _ rfl _ _ _ rfl elemU8 B D s.data.length dc (s.data.map rv.u8v) rfl H.out.data G b.length gc (b.map rv.u8v) rfl (by simp) HCE.out (oneCell_u8 b) (by omega) (by unfold maxLen; omega) (by omega) ?_; intro D1 dc1 w6 ho6 hg6; have x3 := H.out.blk.kept hg6.grown hap; have z1 := x3.get 0; have z2 := x3.frozen 0; clear x3; have HO6 := Lib.hid ho6; have HG6 := Lib.hid hg6; clear ho6 hg6)
      | fail)
    go_ret
    obtain ⟨k1, k2, k3⟩ := H.out.grow (d := s.data ++ b) (bself w) HG6.out (by rw [List.map_append]; exact HO6.out)
    rw [HR.out]
    refine ⟨D1, dc1, M, mc, rfl, k1, k2.mono fun k _ hk => hk.hf, fun k hk => ?_⟩
    rcases hk with e | e | e
    · exact .inl (.inl e)
    · exact (k3.inf e).imp (fun e => .inr (.inl e)) id
    · exact .inl (.inr (.inr e))
end Go.Proofs.Ytdldfllllgogoaa
namespace Go.Proofs.Ytdldfllllgogoaa

/-- what becomes of a state, element by element, up to the first fault -/
def playTo {α σ : Type} (step : σ → α → Except Int σ) (s : σ) : List α → Except Int σ
  | [] => .ok s
  | x :: r => match step s x with
    | .error e => .error e
    | .ok s' => playTo step s' r
theorem playTo_cons {α σ : Type} {step : σ → α → Except Int σ} {s : σ} {x : α} {r : List α} : playTo step s (x :: r) = match step s x with | .error e => .error e | .ok s' => playTo step s' r := rfl
theorem drop_getD {α : Type} (l : List α) (z : α) {k : Nat} (h : k < l.length) : l.drop k = l.getD k z :: l.drop (k + 1) := by
  rw [List.drop_eq_getElem_cons h, List.getD_eq_getElem?_getD, List.getElem?_eq_getElem h]
  rfl
theorem play_ok {α σ : Type} {step : σ → α → Except Int σ} {s s' : σ} {l : List α} (z : α) {k : Nat} (h : k < l.length) (hs : step s (l.getD k z) = .ok s') : playTo step s (l.drop k) = playTo step s' (l.drop (k + 1)) := by
  rw [drop_getD l z h, playTo_cons, hs]
theorem play_no {α σ : Type} {step : σ → α → Except Int σ} {s : σ} {e : Int} {l : List α} (z : α) {k : Nat} (h : k < l.length) (hs : step s (l.getD k z) = .error e) : playTo step s (l.drop k) = .error e := by
  rw [drop_getD l z h, playTo_cons, hs]
theorem play_end {α σ : Type} {step : σ → α → Except Int σ} {s : σ} {l : List α} : playTo step s (l.drop l.length) = .ok s := by
  rw [List.drop_length]
  rfl
end Go.Proofs.Ytdldfllllgogoaa
