/- Package recv: Play. No condition. -/
import Derived.Test.YtdldfllllgogoaaRecv6
namespace Go.Proofs.Ytdldfllllgogoaa
open Go.RowKit
set_option linter.unusedSimpArgs false

theorem elemTold : ElemT Try.prog 36 41 6 80 := ElemT.of Try.underlying36 (z := .agg #[.int .i64 0, .int .i64 0, .int .i64 0, .slice none 0 0, .slice none 0 0, .bool false]) (by kernel_rfl) rfl (by decide)
def RowsRes {α : Type} (R : Rep α) (r : Except Int (List α)) (w : World) (e : Ending) (w' : World) : Prop :=
  ∃ A c, e = .returned (.tuple #[.slice A (exL r).length c, .int .i64 (exC r)]) ∧ SlRep R w' (fun k => w.heap.size ≤ k ∧ k < w'.heap.size) (exL r) A c ∧ Below w.heap.size w w'
theorem RowsRes.no {α : Type} {R : Rep α} {r : Except Int (List α)} {c : Int} (h : r = .error c) {w w' : World} (hb : Below w.heap.size w w') : RowsRes R r w (.returned (.tuple #[.slice none 0 0, .int .i64 c])) w' := by
  subst h
  exact ⟨none, 0, rfl, ⟨Nat.le_refl _, Nat.zero_le _, .inl rfl⟩, hb⟩
theorem RowsRes.yes {α : Type} {R : Rep α} {r : Except Int (List α)} {L : List α} (h : r = .ok L) {w w' : World} {A : Option Addr} {n c : Nat} (hn : n = L.length) (ho : SlRep R w' (fun k => w.heap.size ≤ k ∧ k < w'.heap.size) L A c) (hb : Below w.heap.size w w') : RowsRes R r w (.returned (.tuple #[.slice A n c, .int .i64 0])) w' := by
  subst h
  subst hn
  exact ⟨A, c, rfl, ho, hb⟩
noncomputable def rv.play (room : Int) (l : List Arrival) : Except Int (List Told) := if room < 1 ∨ 4096 < room then .error 2 else if 300 < l.length then .error 1 else .ok (rv.after room l l.length).1
def rv.za : Arrival := ⟨0, 0, [], false, 0⟩
theorem HAt.below {w w' : World} {B F B0 : Nat} {room : Int} {s : rv.St} {D M : Option Addr} {dc mc : Nat} (h : HAt w B F room s D dc M mc) (hs : Stays w w' (HF F D M s.more)) (hB : B0 ≤ B) (hw : B0 ≤ w.heap.size) : Below B0 w w' :=
  ⟨hs.os, hs.tape, hs.output, hs.size, fun k hk => hs.block k (by omega) (fun e => by have := (h.hf_lt e).1; omega)⟩

set_option maxHeartbeats 400000 in
theorem recv_Play_range (room : Int) (n c : Nat) (A : Option Addr) (w : World) (h : room < 1 ∨ 4096 < room) :
    Calls Try.prog 10 #[.int .i64 room, .slice A n c] w fun e w' => e = .returned (.tuple #[.slice none 0 0, .int .i64 2]) ∧ w = w' := by
  by_cases h0 : room < 1
  · go_enter Try.func10, Try.ntmps10
    go_wp2
    go_ret2
    exact ⟨rfl, rfl⟩
  · have h1 : 4096 < room := by omega
    clear h
    go_enter Try.func10, Try.ntmps10
    go_wp2
    go_ret2
    exact ⟨rfl, rfl⟩
set_option maxHeartbeats 400000 in
theorem recv_Play_long (room : Int) (n c : Nat) (A : Option Addr) (w : World) (h0 : 1 ≤ room) (h1 : room ≤ 4096) (h : 300 < n) (hn : n ≤ 140737488351232) :
    Calls Try.prog 10 #[.int .i64 room, .slice A n c] w fun e w' => e = .returned (.tuple #[.slice none 0 0, .int .i64 1]) ∧ w = w' := by
  have h2 : ¬ room < 1 := by omega
  have h3 : ¬ 4096 < room := by omega
  go_enter Try.func10, Try.ntmps10
  go_wp2
  go_ret2
  exact ⟨rfl, rfl⟩
set_option maxRecDepth 100000 in
set_option maxHeartbeats 2000000 in
theorem recv_Play_ok (room : Int) (l : List Arrival) (A : Option Addr) (c : Nat) (w : World) (h0 : 1 ≤ room) (h1 : room ≤ 4096) (hl : SlRep Arrival.rep w (· < w.heap.size) l A c) (hlen : l.length ≤ 300) (hd : ∀ a ∈ l, IntOk a.from_ ∧ a.data.length ≤ 140737488351232) :
    Calls Try.prog 10 #[.int .i64 room, .slice A l.length c] w (RowsRes Told.rep (rv.play room l) w) := by
  have HL := Lib.hid hl
  have HP : Hid (rv.play room l = .ok (rv.after room l l.length).1) := Lib.hid (by unfold rv.play; rw [if_neg (by omega), if_neg (by omega)])
  have HD : Hid (∀ k, k < l.length → IntOk (l.getD k rv.za).from_ ∧ (l.getD k rv.za).data.length ≤ 140737488351232) := Lib.hid (fun k hk => hd _ (by rw [List.getD_eq_getElem?_getD, List.getElem?_eq_getElem hk]; exact List.getElem_mem hk))
  have HI := Lib.hid (fun k => rv.Inv.after h0 l k)
  have HRM := Lib.hid (And.intro h0 h1)
  have h2 : ¬ room < 1 := by omega
  have h3 : ¬ 4096 < room := by omega
  clear hl hd
  go_enter Try.func10, Try.ntmps10
  go_wp2_with (first
    | (go_at_call 20; ((refine (recv_New room _).mono ?_); rintro e w1 ⟨rfl, hN, hb1⟩; have HN := Lib.hid hN; have HB1 := Lib.hid hb1; clear hN hb1))
    | fail)
  clear h2 h3
  go_loopw [7, 23] (fun out i wr => ∃ (k : Nat) (Ao : Option Addr) (co : Nat) (xs : List Value) (D : Option Addr) (dc : Nat) (M : Option Addr) (mc : Nat), k ≤ l.length ∧ i = .int .i64 k ∧ out = .slice Ao k co ∧ Hid (HAt wr w.heap.size w.heap.size room (rv.after room l k).2 D dc M mc ∧ Coll Told.rep wr w.heap.size 41 6 Ao k co (HF w.heap.size D M (rv.after room l k).2.more) (rv.after room l k).1 xs ∧ Below w.heap.size w wr)) (fun _ i _ => l.length - (intOf i).toNat)
  case atStart => exact ⟨0, none, 0, [], none, 0, none, 0, by omega, rfl, rfl, Lib.hid ⟨HN.out, Coll.nil _ _ _ _ _, HB1.out⟩⟩
  case round =>
    obtain ⟨k, Ao, co, xs, D, dc, M, mc, hk, rfl, rfl, HR⟩ := hrel
    rename World => wr
    obtain ⟨hH, hC, hB⟩ := HR.out
    by_cases hlt : k < l.length
    · obtain ⟨b, o, rfl, hb, G, gc, e0, e1, e2, e3, e4, hg⟩ := Arrival.cells_at rv.za (HL.out.below hB) hlt
      have hlt' : (k : Int) < (l.length : Int) := by omega
      have hbr : b < wr.heap.size := Nat.lt_of_lt_of_le hb hB.size
      have hdl := HD.out k hlt
      have HAF := Lib.hid (rv.after_succ (room := room) (l := l) (k := k) (a := l.getD k rv.za) (by rw [List.getD_eq_getElem?_getD, List.getElem?_eq_getElem hlt]; rfl))
      have HGL := Lib.hid hg
      have HH := Lib.hid hH
      have HC := Lib.hid hC
      have HB := Lib.hid hB
      have HIk := Lib.hid (HI.out k)
      have HLT := Lib.hid (fun q => hH.hf_lt (k := q))
      have hsz : w.heap.size ≤ wr.heap.size := hB.size
      clear hg hH hC hB HR HL HD HN HB1
      generalize l.getD k rv.za = a at *
      generalize (rv.after room l k).2 = s at *
      generalize (rv.after room l k).1 = L at *
      go_wp2_with (first
        | (go_at_call 21; ((refine (recv_Do w.heap.size w.heap.size room s D dc M mc a G gc (· < w.heap.size) _ (HH.out.next (balloc (bself wr) _)) HIk.out HRM.out (HGL.out.keep fun q hq => ⟨hq, Below.heap_alloc wr _ q (by omega)⟩) (fun q hq => ⟨by simp only [World.size_alloc]; omega, fun e => by have := (HLT.out q e).1; omega⟩) hdl.1 hdl.2).mono ?_); rintro e w5 ⟨cs, D5, dc5, M5, mc5, rfl, g1, g2, g3, g4⟩; obtain ⟨Aw, cw, Ad, cd, rfl, g5, g6⟩ := Told.rep_iff.1 g1; have HC5 := Lib.hid ((HC.out.next (balloc (bself wr) _)).stays g3 g4); have G1 := Lib.hid g1; have G2 := Lib.hid g2; have G3 := Lib.hid g3; have G4 := Lib.hid g4; have hs5 := g3.size; clear g1 g2 g3 g4 g5 g6))
        | (at_builtin; refine wp_app _ rfl _ _ _ rfl elemTold w.heap.size Ao k co xs rfl (HC5.out.own.alloc _) _ 1 1 [_, _, _, _, _, _] rfl rfl (Cells.newAt _ _ _ rfl) (by simp [Value.oneCell']) (by omega) (by unfold maxLen; omega) (by simp only [World.size_alloc] at *; omega) ?_; intro A6 c6 w6 hO6 hg6; have HO6 := Lib.hid hO6; have HG6 := Lib.hid hg6; clear hO6 hg6)
        | fail)
      go_roundw
      case rel =>
        have hs5' : wr.heap.size + 1 ≤ w5.heap.size := by simpa using hs5
        have hC6 := HC5.out.push (a := (rv.doIt room s a).1) (Told.rep.mono G1.out (fun q hq => ⟨⟨by have := hq.1; simp only [World.size_alloc] at this; omega, hq.2.1, fun e => by have := (HC.out.own.lt q e).2; have := hq.1; simp only [World.size_alloc] at this; omega, hq.2.2⟩, rfl⟩)) (balloc (bself w5) _) HG6.out HO6.out (fun q hq => (G2.out.hf_lt hq).2)
        have hF6 := G2.out.stays ((Stays.of_below (balloc (bself w5) _) (fun j => blkOf Ao = some j)).comp (Stays.grew HG6.out)) (fun j hj e => HC5.out.far _ e hj)
        have hB6 : Below w.heap.size w w6 := by
          have b1 : Below w.heap.size w (wr.alloc (.cells #[.int .i64 a.kind, .int .i64 a.from_, .slice G a.data.length gc, .bool a.fin, .int .i64 a.count] 73)) := balloc HB.out _
          have b2 := (HH.out.next (balloc (bself wr) _)).below G3.out (Nat.le_refl _) (by simp only [World.size_alloc]; omega)
          exact (balloc (b1.trans b2) _).trans (HG6.out.below (by simp only [World.size_alloc]; omega) (fun j hj => (HC5.out.own.lt j hj).1))
        exact ⟨k + 1, A6, c6, _, D5, dc5, M5, mc5, by omega, by go_num, rfl, Lib.hid (by rw [HAF.out]; exact ⟨hF6, hC6, hB6⟩)⟩
      case measure => simp [intOf]; omega
    · obtain rfl : k = l.length := by omega
      have HRS : Hid (RowsRes Told.rep (rv.play room l) w (.returned (.tuple #[.slice Ao l.length co, .int .i64 0])) wr) := Lib.hid (by
        have h := hC.rep rfl (by decide)
        exact RowsRes.yes (L := (rv.after room l l.length).1) HP.out h.1 h.2 hB)
      clear hH hC hB HR HL HD HN HB1 HI HP
      go_wp2
      go_ret2
      exact HRS.out
theorem recv_Play_res (room : Int) (l : List Arrival) (A : Option Addr) (c : Nat) (w : World) (hl : SlRep Arrival.rep w (· < w.heap.size) l A c) (hlen : l.length ≤ 140737488351232) (hd : ∀ a ∈ l, IntOk a.from_ ∧ a.data.length ≤ 140737488351232) :
    Calls Try.prog 10 #[.int .i64 room, .slice A l.length c] w (RowsRes Told.rep (rv.play room l) w) := by
  by_cases h1 : room < 1 ∨ 4096 < room
  · refine (recv_Play_range room _ c A w h1).mono ?_
    rintro e w' ⟨rfl, rfl⟩
    exact RowsRes.no (by unfold rv.play; rw [if_pos h1]) (bself w)
  by_cases h : 300 < l.length
  · refine (recv_Play_long room _ c A w (by omega) (by omega) h hlen).mono ?_
    rintro e w' ⟨rfl, rfl⟩
    exact RowsRes.no (by unfold rv.play; rw [if_neg h1, if_pos h]) (bself w)
  · exact recv_Play_ok room l A c w (by omega) (by omega) hl (by omega) hd
end Go.Proofs.Ytdldfllllgogoaa
