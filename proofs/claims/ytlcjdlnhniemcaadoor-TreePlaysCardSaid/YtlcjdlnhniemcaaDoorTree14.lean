/- Package tree: New, Play. No condition. -/
import Derived.Test.YtlcjdlnhniemcaaDoorTree13
import Derived.Test.YtlcjdlnhniemcaaDoorMgE
namespace Go.Proofs.YtlcjdlnhniemcaaDoor
open Go.RowKit Go.Maps Go.MapKept
set_option linter.unusedSimpArgs false
set_option linter.unusedVariables false

noncomputable def tr.afterAll (l : List Act_) : Nat → List Seen × List tr.Item
  | 0 => ([], tr.start)
  | k + 1 => match l[k]? with
    | none => tr.afterAll l k
    | some a => ((tr.afterAll l k).1 ++ [(tr.act (tr.afterAll l k).2 a).2], (tr.act (tr.afterAll l k).2 a).1)
theorem tr.afterAll_succ {l : List Act_} {k : Nat} {a : Act_} (h : l[k]? = some a) : tr.afterAll l (k + 1) = ((tr.afterAll l k).1 ++ [(tr.act (tr.afterAll l k).2 a).2], (tr.act (tr.afterAll l k).2 a).1) := by
  show (match l[k]? with | none => _ | some a => _) = _
  rw [h]
noncomputable def tr.play (l : List Act_) : Except Int (List Seen) := if 300 < l.length then .error 1 else .ok (tr.afterAll l l.length).1
def tr.za : Act_ := ⟨0, ⟨#[]⟩, ⟨#[]⟩, 0, 0, []⟩
theorem tr.start_live {i : Nat} (h : tr.Live tr.start i) : i = 0 := by
  have := h.lt
  simp [tr.start] at this
  omega
theorem tr.start_child (nm : List UInt8) : tr.child tr.start 0 nm = none := tr.child_no fun j hj => by
  have : j = 0 := by simp [tr.start] at hj; omega
  subst this
  rfl
theorem TAt.first {w : World} {B Tb p q : Nat} (hp : BlkA w p 45 #[.map (some q)]) (hq : MapV w Tryd.prog 9 q 0 (fun _ => none)) (ht : BlkA w Tb 47 #[.pointer (some ⟨p, 0, none⟩), .int .i64 1]) (hBp : B ≤ p) (hBq : B ≤ q) (hBt : B ≤ Tb) (hpt : p ≠ Tb) (hqt : q ≠ Tb) : TAt w B Tb 0 tr.start [⟨p, q, none, 0⟩] := by
  refine ⟨tr.Inv.start, rfl, ht, fun i hi => ?_, fun i hi k hk => ?_, hBt, fun i j hi hj hij => ?_⟩
  · obtain rfl := tr.start_live hi
    refine ⟨fun _ => ⟨hp, ?_⟩, fun e => absurd e (by decide), fun e => absurd e (by decide)⟩
    have e : kidV tr.start [⟨p, q, none, 0⟩] 0 = fun _ => none := by funext nm; unfold kidV; rw [tr.start_child]; rfl
    rw [e, ← nmap_none]
    exact hq
  · obtain rfl := tr.start_live hi
    rcases hk with rfl | ⟨_, rfl⟩ | ⟨e, _⟩
    · exact ⟨hBp, hpt⟩
    · exact ⟨hBq, hqt⟩
    · exact absurd e (by decide)
  · rw [tr.start_live hi, tr.start_live hj] at hij
    exact absurd rfl hij
set_option maxRecDepth 100000 in
theorem tree_New (w : World) : Calls Tryd.prog 7 #[] w fun e w' => ∃ Tb P, e = .returned (.pointer (some ⟨Tb, 0, none⟩)) ∧ TAt w' w.heap.size Tb 0 tr.start P ∧ Below w.heap.size w w' := by
  have hmm := @run_makeMap Tryd.prog
  go_enter Tryd.func7, Tryd.ntmps7
  go_wp2
  go_ret
  refine ⟨w.heap.size + 1 + 1, [⟨w.heap.size + 1, w.heap.size, none, 0⟩], rfl, ?_, (by repeat (first | (with_reducible exact Below.refl _ _) | (with_reducible assumption) | (with_reducible refine bset ?_ ?_ _) | (with_reducible refine balloc ?_ _) | (with_reducible refine Below.drew ?_) | (with_reducible refine bdrewN ?_ _) | (with_reducible refine bnext ?_ (by with_reducible assumption)) | exact Nat.le_refl _ | (simp; done) | omega | (simp; omega)))⟩
  refine TAt.first ?_ ?_ ?_ (by omega) (by omega) (by omega) (by omega) (by omega)
  · have h := (BlkA.new (w.alloc (.map #[] 0)) 45 #[.map (some w.heap.size)]).alloc (.cells #[.pointer (some ⟨w.heap.size + 1, 0, none⟩), .int .i64 1] 47)
    simpa using h
  · exact ((MapV.made w Tryd.prog 9).alloc _).alloc _
  · have h := BlkA.new ((w.alloc (.map #[] 0)).alloc (.cells #[.map (some w.heap.size)] 45)) 47 #[.pointer (some ⟨w.heap.size + 1, 0, none⟩), .int .i64 1]
    simpa using h
theorem elemSeen : ElemT Tryd.prog 23 31 5 72 := ElemT.of Tryd.underlying23 (z := .agg #[.int .i64 0, .int .i64 0, .int .i64 0, .slice none 0 0, .slice none 0 0]) (by kernel_rfl) rfl (by decide)
theorem tree_Play_long (n c : Nat) (A : Option Addr) (w : World) (h : 300 < n) (hn : n ≤ 140737488351232) : Calls Tryd.prog 4 #[.slice A n c] w fun e w' => e = .returned (.tuple #[.slice none 0 0, .int .i64 1]) ∧ Below w.heap.size w w' := by
  have h' : (300 : Int) < (n : Int) := by omega
  go_enter Tryd.func4, Tryd.ntmps4
  go_wp2
  go_ret2
  exact ⟨rfl, (by repeat (first | (with_reducible exact Below.refl _ _) | (with_reducible assumption) | (with_reducible refine bset ?_ ?_ _) | (with_reducible refine balloc ?_ _) | (with_reducible refine Below.drew ?_) | (with_reducible refine bdrewN ?_ _) | (with_reducible refine bnext ?_ (by with_reducible assumption)) | exact Nat.le_refl _ | (simp; done) | omega | (simp; omega)))⟩
theorem TAt.below {w w' : World} {B Tb M : Nat} {W : List tr.Item} {P : List NA} (h : TAt w B Tb M W P) (hs : Stays w w' (TF Tb W P)) {B0 : Nat} (hB : B0 ≤ B) (hB2 : B0 ≤ w.heap.size) : Below B0 w w' := hs.below hB2 fun k hk => Nat.le_trans hB (h.lt hk).1

set_option maxRecDepth 100000 in
set_option maxHeartbeats 2000000 in
theorem tree_Play_ok (l : List Act_) (A : Option Addr) (c : Nat) (w : World) (hl : SlRep Act_.rep w (· < w.heap.size) l A c) (hlen : l.length ≤ 300) (hd : ∀ a ∈ l, IntOk a.at_ ∧ IntOk a.count ∧ a.data.length ≤ 140737488351232 ∧ a.path.size ≤ 140737488351232 ∧ a.to.size ≤ 140737488351232) :
    Calls Tryd.prog 4 #[.slice A l.length c] w (RowsRes Seen.rep (tr.play l) w) := by
  have HL := Lib.hid hl
  have HP : Hid (tr.play l = .ok (tr.afterAll l l.length).1) := Lib.hid (by unfold tr.play; rw [if_neg (by omega)])
  have HD : Hid (∀ k, k < l.length → IntOk (l.getD k tr.za).at_ ∧ IntOk (l.getD k tr.za).count ∧ (l.getD k tr.za).data.length ≤ 140737488351232 ∧ (l.getD k tr.za).path.size ≤ 140737488351232 ∧ (l.getD k tr.za).to.size ≤ 140737488351232) := Lib.hid (fun k hk => hd _ (by rw [List.getD_eq_getElem?_getD, List.getElem?_eq_getElem hk]; exact List.getElem_mem hk))
  have HNE := Lib.hid tree_New
  clear hl hd
  go_enter Tryd.func4, Tryd.ntmps4
  go_wp2_with (first
    | (go_at_call 7; ((with_reducible refine (HNE.out _).mono ?_); rintro e w1 ⟨Tb, P0, rfl, hN, hb1⟩; have HN := Lib.hid hN; have HB1 := Lib.hid hb1; clear hN hb1))
    | fail)
  clear HNE
  go_loopw [5, 14] (fun out i wr => ∃ (k : Nat) (Ao : Option Addr) (co : Nat) (xs : List Value) (P : List NA), k ≤ l.length ∧ i = .int .i64 k ∧ out = .slice Ao k co ∧ Hid (TAt wr w.heap.size Tb k (tr.afterAll l k).2 P ∧ Coll Seen.rep wr w.heap.size 31 5 Ao k co (TF Tb (tr.afterAll l k).2 P) (tr.afterAll l k).1 xs ∧ Below w.heap.size w wr)) (fun _ i _ => l.length - (intOf i).toNat)
  case atStart => exact ⟨0, none, 0, [], P0, by omega, rfl, rfl, Lib.hid ⟨HN.out, Coll.nil _ _ _ _ _, HB1.out⟩⟩
  case round =>
    obtain ⟨k, Ao, co, xs, P, hk, rfl, rfl, HR⟩ := hrel
    rename World => wr
    obtain ⟨hH, hC, hB⟩ := HR.out
    by_cases hlt : k < l.length
    · obtain ⟨b, o, rfl, hb, G, gc, e0, e1, e2, e3, e4, e5, hg⟩ := Act_.cells_at tr.za (HL.out.below hB) hlt
      have hlt' : (k : Int) < (l.length : Int) := by omega
      have hbr : b < wr.heap.size := Nat.lt_of_lt_of_le hb hB.size
      have hdl := HD.out k hlt
      have HAF := Lib.hid (tr.afterAll_succ (l := l) (k := k) (a := l.getD k tr.za) (by rw [List.getD_eq_getElem?_getD, List.getElem?_eq_getElem hlt]; rfl))
      have HGL := Lib.hid hg
      have HH := Lib.hid hH
      have HC := Lib.hid hC
      have HB := Lib.hid hB
      have hsz : w.heap.size ≤ wr.heap.size := hB.size
      clear hg hH hC hB HR HL HD HN HB1
      generalize l.getD k tr.za = t at *
      generalize (tr.afterAll l k).2 = s at *
      generalize (tr.afterAll l k).1 = L at *
      have HDO : Hid (∀ wx, Below wr.heap.size wr wx → Calls Tryd.prog 8 #[.pointer (some ⟨Tb, 0, none⟩), .agg #[.int .i64 t.kind, .string t.path, .string t.to, .int .i64 t.at_, .int .i64 t.count, .slice G t.data.length gc]] wx (SnOut wx w.heap.size Tb s P (k + 1) (tr.act s t))) := Lib.hid (fun wx hb => by
        exact tree_Do t G gc wx (HH.out.next hb) (by unfold maxLen; omega) (HGL.out.keep fun q hq => ⟨Nat.lt_of_lt_of_le hq (Nat.le_trans hsz hb.size), hb.block q (Nat.lt_of_lt_of_le hq hsz)⟩) (fun q hne hq e => by
          rcases HGL.out.2.2 with h | ⟨b9, o9, e1, e2, _⟩
          · exact hne h
          · rw [e1] at hq
            have hq9 : b9 = q := Option.some.inj hq
            have h1 : b9 < w.heap.size := e2
            have h2 := (HH.out.lt e).1
            omega) hdl.1 hdl.2.1 hdl.2.2.1 hdl.2.2.2.1 hdl.2.2.2.2)
      go_wp2_with (first
        | (go_at_call 8; ((with_reducible refine (HDO.out _ (balloc (bself wr) _)).mono ?_); rintro e w5 ⟨cs, P5, rfl, g1, g2, g3, g4⟩; obtain ⟨Ad, cd, An, cn, rfl, g5, g6⟩ := Seen.rep_iff.1 g1; have HC5 := Lib.hid ((HC.out.next (balloc (bself wr) _)).stays g3 g4); have G1 := Lib.hid g1; have G2 := Lib.hid g2; have G3 := Lib.hid g3; have G4 := Lib.hid g4; have hs5 := g3.size; clear g1 g2 g3 g4 g5 g6))
        | (at_builtin; refine wp_app _ rfl _ _ _ rfl elemSeen w.heap.size Ao k co xs rfl (HC5.out.own.alloc _) _ 1 1 [_, _, _, _, _] rfl rfl (Cells.newAt _ _ _ rfl) (by simp [Value.oneCell']) (by omega) (by unfold maxLen; omega) (by simp only [World.size_alloc] at *; omega) ?_; intro A6 c6 w6 hO6 hg6; have HO6 := Lib.hid hO6; have HG6 := Lib.hid hg6; clear hO6 hg6)
        | fail)
      go_roundw
      case rel =>
        have hs5' : wr.heap.size + 1 ≤ w5.heap.size := by simpa using hs5
        have hC6 := HC5.out.push (a := (tr.act s t).2) (Seen.rep.mono G1.out (fun q hq => ⟨⟨by have := hq.1; simp only [World.size_alloc] at this; omega, hq.2.1, fun e => by have := (HC.out.own.lt q e).2; have := hq.1; simp only [World.size_alloc] at this; omega, hq.2.2⟩, rfl⟩)) (balloc (bself w5) _) HG6.out HO6.out (fun q hq => (G2.out.lt hq).2)
        have hF6 := G2.out.stays ((Stays.of_below (balloc (bself w5) _) (fun j => blkOf Ao = some j)).comp (Stays.grew HG6.out)) (fun j hj e => HC5.out.far _ e hj)
        have hB6 : Below w.heap.size w w6 := by
          have b1 : Below w.heap.size w (wr.alloc (.cells #[.int .i64 t.kind, .string t.path, .string t.to, .int .i64 t.at_, .int .i64 t.count, .slice G t.data.length gc] 36)) := balloc HB.out _
          have b2 := (HH.out.next (balloc (bself wr) _)).below (B0 := w.heap.size) G3.out (Nat.le_refl _) (by simp only [World.size_alloc]; omega)
          exact (balloc (b1.trans b2) _).trans (HG6.out.below (by simp only [World.size_alloc]; omega) (fun j hj => (HC5.out.own.lt j hj).1))
        exact ⟨k + 1, A6, c6, _, P5, by omega, by go_num, rfl, Lib.hid (by rw [HAF.out]; exact ⟨hF6, hC6, hB6⟩)⟩
      case measure => simp [intOf]; omega
    · obtain rfl : k = l.length := by omega
      have HRS : Hid (RowsRes Seen.rep (tr.play l) w (.returned (.tuple #[.slice Ao l.length co, .int .i64 0])) wr) := Lib.hid (by
        have h := hC.rep rfl (by decide)
        exact RowsRes.yes (L := (tr.afterAll l l.length).1) HP.out h.1 h.2 hB)
      clear hH hC hB HR HL HD HN HB1 HP
      go_wp2
      go_ret2
      exact HRS.out
theorem tree_Play_res (l : List Act_) (A : Option Addr) (c : Nat) (w : World) (hl : SlRep Act_.rep w (· < w.heap.size) l A c) (hlen : l.length ≤ 140737488351232) (hd : ∀ a ∈ l, IntOk a.at_ ∧ IntOk a.count ∧ a.data.length ≤ 140737488351232 ∧ a.path.size ≤ 140737488351232 ∧ a.to.size ≤ 140737488351232) :
    Calls Tryd.prog 4 #[.slice A l.length c] w (RowsRes Seen.rep (tr.play l) w) := by
  by_cases h : 300 < l.length
  · refine (tree_Play_long _ c A w h hlen).mono ?_
    rintro e w' ⟨rfl, hb⟩
    exact RowsRes.no (by unfold tr.play; rw [if_pos h]) hb
  · exact tree_Play_ok l A c w hl (by omega) hd
end Go.Proofs.YtlcjdlnhniemcaaDoor
