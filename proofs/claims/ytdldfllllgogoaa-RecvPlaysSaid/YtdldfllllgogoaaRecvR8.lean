/- The reference of recv: RecvPlayed. No condition. -/
import Derived.Test.YtdldfllllgogoaaRecvR7
import Derived.Test.YtdldfllllgogoaaRecv7
namespace Go.Proofs.Ytdldfllllgogoaa
open Go.RowKit
set_option linter.unusedSimpArgs false

theorem rv.mapF_start : rv.mapF rv.start = fun _ => none := by
  funext k
  refine rv.mapF_none.2 ?_
  rintro (e | ⟨r, hr, _⟩)
  · have h1 := e.1
    have h2 : k < 0 := e.2
    omega
  · cases hr
set_option maxHeartbeats 400000 in
theorem ref_RecvPlayed_range (room : Int) (n c : Nat) (A : Option Addr) (w : World) (h : room < 1 ∨ 4096 < room) :
    Calls Try.prog 11 #[.int .i64 room, .slice A n c] w fun e w' => e = .returned (.tuple #[.slice none 0 0, .int .i64 2]) ∧ w = w' := by
  by_cases h0 : room < 1
  · go_enter Try.func11, Try.ntmps11
    go_wp2
    go_ret2
    exact ⟨rfl, rfl⟩
  · have h1 : 4096 < room := by omega
    clear h
    go_enter Try.func11, Try.ntmps11
    go_wp2
    go_ret2
    exact ⟨rfl, rfl⟩
set_option maxHeartbeats 400000 in
theorem ref_RecvPlayed_long (room : Int) (n c : Nat) (A : Option Addr) (w : World) (h0 : 1 ≤ room) (h1 : room ≤ 4096) (h : 300 < n) (hn : n ≤ 140737488351232) :
    Calls Try.prog 11 #[.int .i64 room, .slice A n c] w fun e w' => e = .returned (.tuple #[.slice none 0 0, .int .i64 1]) ∧ w = w' := by
  have h2 : ¬ room < 1 := by omega
  have h3 : ¬ 4096 < room := by omega
  go_enter Try.func11, Try.ntmps11
  go_wp2
  go_ret2
  exact ⟨rfl, rfl⟩
set_option maxRecDepth 100000 in
set_option maxHeartbeats 2000000 in
theorem ref_RecvPlayed_ok (room : Int) (l : List Arrival) (A : Option Addr) (c : Nat) (w : World) (h0 : 1 ≤ room) (h1 : room ≤ 4096) (hl : SlRep Arrival.rep w (· < w.heap.size) l A c) (hlen : l.length ≤ 300) (hd : ∀ a ∈ l, IntOk a.from_ ∧ a.data.length ≤ 140737488351232) :
    Calls Try.prog 11 #[.int .i64 room, .slice A l.length c] w (RowsRes Told.rep (rv.play room l) w) := by
  have HL := Lib.hid hl
  have HP : Hid (rv.play room l = .ok (rv.after room l l.length).1) := Lib.hid (by unfold rv.play; rw [if_neg (by omega), if_neg (by omega)])
  have HD : Hid (∀ k, k < l.length → IntOk (l.getD k rv.za).from_ ∧ (l.getD k rv.za).data.length ≤ 140737488351232) := Lib.hid (fun k hk => hd _ (by rw [List.getD_eq_getElem?_getD, List.getElem?_eq_getElem hk]; exact List.getElem_mem hk))
  have HI := Lib.hid (fun k => rv.Inv.after h0 l k)
  have HRM := Lib.hid (And.intro h0 h1)
  have h2 : ¬ room < 1 := by omega
  have h3 : ¬ 4096 < room := by omega
  clear hl hd
  go_enter Try.func11, Try.ntmps11
  go_wp2_with (first
    | (go_at_call 22; ((refine (ref_NewInlet room _).mono ?_); rintro e w1 ⟨G, Mb, rfl, hN, hG1, hM1, hb1⟩; have HN := Lib.hid hN; have HB1 := Lib.hid hb1; clear hN hb1))
    | fail)
  have HN0 : Hid (IS w1 G Mb 0 room rv.start) := Lib.hid (by unfold IS; rw [rv.mapF_start]; exact HN.out)
  clear h2 h3 HN
  go_loopw [7, 23] (fun out i wr => ∃ (k n : Nat) (Ao : Option Addr) (co : Nat) (xs : List Value), k ≤ l.length ∧ i = .int .i64 k ∧ out = .slice Ao k co ∧ Hid (n ≤ 64 * k ∧ IS wr G Mb n room (rv.after room l k).2 ∧ Coll Told.rep wr w.heap.size 41 6 Ao k co (GM G Mb) (rv.after room l k).1 xs ∧ Below w.heap.size w wr)) (fun _ i _ => l.length - (intOf i).toNat)
  case atStart => exact ⟨0, 0, none, 0, [], by omega, rfl, rfl, Lib.hid ⟨by omega, HN0.out, Coll.nil _ _ _ _ _, HB1.out⟩⟩
  case round =>
    obtain ⟨k, n, Ao, co, xs, hk, rfl, rfl, HR⟩ := hrel
    rename World => wr
    obtain ⟨hnk, hH, hC, hB⟩ := HR.out
    by_cases hlt : k < l.length
    · obtain ⟨b, o, rfl, hb, Ga, gc, e0, e1, e2, e3, e4, hg⟩ := Arrival.cells_at rv.za (HL.out.below hB) hlt
      have hlt' : (k : Int) < (l.length : Int) := by omega
      have hbr : b < wr.heap.size := Nat.lt_of_lt_of_le hb hB.size
      have hdl := HD.out k hlt
      have HAF := Lib.hid (rv.after_succ (room := room) (l := l) (k := k) (a := l.getD k rv.za) (by rw [List.getD_eq_getElem?_getD, List.getElem?_eq_getElem hlt]; rfl))
      have HGL := Lib.hid hg
      have HH := Lib.hid hH
      have HC := Lib.hid hC
      have HB := Lib.hid hB
      have HIk := Lib.hid (HI.out k)
      have hGl : G < wr.heap.size := hH.blk.lt
      have hMl : Mb < wr.heap.size := hH.map.lt
      have hsz : w.heap.size ≤ wr.heap.size := hB.size
      clear hg hH hC hB HR HL HD HN0 HB1
      generalize l.getD k rv.za = a at *
      generalize (rv.after room l k).2 = s at *
      generalize (rv.after room l k).1 = L at *
      go_wp2_with (first
        | (go_at_call 23; ((refine (ref_Arrival G Mb n room s a Ga gc (· < w.heap.size) _ (HH.out.next (balloc (bself wr) _)) HIk.out HRM.out (HGL.out.keep fun q hq => ⟨hq, Below.heap_alloc wr _ q (by omega)⟩) (fun q hq => ⟨by simp only [World.size_alloc]; omega, fun e => by rcases e with e | e <;> omega⟩) hdl.1 hdl.2 (by omega)).mono ?_); rintro e w5 ⟨cs, n5, rfl, g0, g1, g2, g3⟩; obtain ⟨Aw, cw, Ad, cd, rfl, g5, g6⟩ := Told.rep_iff.1 g1; have HC5 := Lib.hid ((HC.out.next (balloc (bself wr) _)).stays g3 (fun _ h => .inl h)); have G1 := Lib.hid g1; have G2 := Lib.hid g2; have G3 := Lib.hid g3; have hs5 := g3.size; clear g1 g2 g3 g5 g6))
        | (at_builtin; refine wp_app _ rfl _ _ _ rfl elemTold w.heap.size Ao k co xs rfl (HC5.out.own.alloc _) _ 1 1 [_, _, _, _, _, _] rfl rfl (Cells.newAt _ _ _ rfl) (by simp [Value.oneCell']) (by omega) (by unfold maxLen; omega) (by simp only [World.size_alloc] at *; omega) ?_; intro A6 c6 w6 hO6 hg6; have HO6 := Lib.hid hO6; have HG6 := Lib.hid hg6; clear hO6 hg6)
        | fail)
      go_roundw
      case rel =>
        have hs5' : wr.heap.size + 1 ≤ w5.heap.size := by simpa using hs5
        have hGM : ∀ q, GM G Mb q → q < wr.heap.size := fun q hq => by rcases hq with e | e <;> omega
        have hC6 := HC5.out.push (a := (rv.doIt room s a).1) (Told.rep.mono G1.out (fun q hq => ⟨⟨by have := hq.1; simp only [World.size_alloc] at this; omega, hq.2, fun e => by have := (HC.out.own.lt q e).2; have := hq.1; simp only [World.size_alloc] at this; omega, fun e => by have := hGM q e; have := hq.1; simp only [World.size_alloc] at this; omega⟩, rfl⟩)) (balloc (bself w5) _) HG6.out HO6.out (fun q hq => by have := hGM q hq; omega)
        have st := ((Stays.of_below (balloc (bself w5) _) (fun j => blkOf Ao = some j)).comp (Stays.grew HG6.out))
        have hF6 : IS w6 G Mb n5 room (rv.doIt room s a).2 := IAt.stays G2.out st (fun e => HC5.out.far _ e (.inl rfl)) (fun e => HC5.out.far _ e (.inr rfl))
        have hB6 : Below w.heap.size w w6 := by
          have b1 : Below w.heap.size w (wr.alloc (.cells #[.int .i64 a.kind, .int .i64 a.from_, .slice Ga a.data.length gc, .bool a.fin, .int .i64 a.count] 73)) := balloc HB.out _
          have b2 : Below w.heap.size (wr.alloc (.cells #[.int .i64 a.kind, .int .i64 a.from_, .slice Ga a.data.length gc, .bool a.fin, .int .i64 a.count] 73)) w5 := G3.out.below (by simp only [World.size_alloc]; omega) (fun q hq => by rcases hq with e | e <;> omega)
          exact (balloc (b1.trans b2) _).trans (HG6.out.below (by simp only [World.size_alloc]; omega) (fun j hj => (HC5.out.own.lt j hj).1))
        exact ⟨k + 1, n5, A6, c6, _, by omega, by go_num, rfl, Lib.hid (by rw [HAF.out]; exact ⟨by omega, hF6, hC6, hB6⟩)⟩
      case measure => simp [intOf]; omega
    · obtain rfl : k = l.length := by omega
      have HRS : Hid (RowsRes Told.rep (rv.play room l) w (.returned (.tuple #[.slice Ao l.length co, .int .i64 0])) wr) := Lib.hid (by
        have h := hC.rep rfl (by decide)
        exact RowsRes.yes (L := (rv.after room l l.length).1) HP.out h.1 h.2 hB)
      clear hH hC hB HR HL HD HN0 HB1 HI HP
      go_wp2
      go_ret2
      exact HRS.out
theorem ref_RecvPlayed_res (room : Int) (l : List Arrival) (A : Option Addr) (c : Nat) (w : World) (hl : SlRep Arrival.rep w (· < w.heap.size) l A c) (hlen : l.length ≤ 140737488351232) (hd : ∀ a ∈ l, IntOk a.from_ ∧ a.data.length ≤ 140737488351232) :
    Calls Try.prog 11 #[.int .i64 room, .slice A l.length c] w (RowsRes Told.rep (rv.play room l) w) := by
  by_cases h1 : room < 1 ∨ 4096 < room
  · refine (ref_RecvPlayed_range room _ c A w h1).mono ?_
    rintro e w' ⟨rfl, rfl⟩
    exact RowsRes.no (by unfold rv.play; rw [if_pos h1]) (bself w)
  by_cases h : 300 < l.length
  · refine (ref_RecvPlayed_long room _ c A w (by omega) (by omega) h hlen).mono ?_
    rintro e w' ⟨rfl, rfl⟩
    exact RowsRes.no (by unfold rv.play; rw [if_neg h1, if_pos h]) (bself w)
  · exact ref_RecvPlayed_ok room l A c w (by omega) (by omega) hl (by omega) hd
end Go.Proofs.Ytdldfllllgogoaa
